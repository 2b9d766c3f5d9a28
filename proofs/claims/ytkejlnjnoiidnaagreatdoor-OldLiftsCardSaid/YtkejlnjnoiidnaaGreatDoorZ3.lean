/- Plain facts on the sum of a text: a table-free sum byte by byte is the sum bit by bit. No program in sight. -/
import Derived.Test.YtkejlnjnoiidnaaGreatDoorZ1
import Derived.Test.YtkejlnjnoiidnaaGreatDoorZ2
import Derived.Deep.RegionWith
import Derived.Lib.BitFns
import Derived.Test.YtkejlnjnoiidnaaGreatDoorShelfLen
import Derived.OwnWalk
import Derived.WalkKit
import Derived.WalkLawsBesides
import Derived.WalkSpells
import Derived.Outline
import Derived.Lib.Hide
import Derived.Laws.BitsAllLaws
set_option linter.unusedSimpArgs false
set_option linter.unusedVariables false
section
namespace Go.Proofs.YtkejlnjnoiidnaaGreatDoor.Crc
def poly : Nat := 2197175160
def stp (n : Nat) : Nat := if n % 2 = 1 then (n / 2) ^^^ poly else n / 2
def iter : Nat → Nat → Nat
 | 0, n => n
 | k + 1, n => iter k (stp n)
def one (n : Nat) : Nat := iter 8 n
def zgt (n b : Nat) : Nat := one ((n % 256) ^^^ b) ^^^ (n / 256)
def run (n : Nat) (l : List UInt8) : Nat := l.foldl (fun n b => zgt n b.toNat) n
def zhg (n bit : Nat) : Nat := stp (n ^^^ bit)
def zll : Nat → Nat → Nat → Nat
 | 0, n, _ => n
 | k + 1, n, b => zll k (zhg n (b % 2)) (b / 2)
theorem zxh (a b : Nat) : (a ^^^ b) / 2 = (a / 2) ^^^ (b / 2) := Nat.xor_div_two
theorem ycg (a b : Nat) : (a ^^^ b) % 2 = (a % 2 + b % 2) % 2 := by
 have h := Nat.xor_mod_two_pow (a := a) (b := b) (n := 1);simp only [Nat.pow_one] at h;rw [h];rcases Nat.mod_two_eq_zero_or_one a with ha | ha <;> rcases Nat.mod_two_eq_zero_or_one b with hb | hb <;> rw [ha, hb] <;> decide
theorem ydi (a b : Nat) : stp (a ^^^ b) = stp a ^^^ stp b := by
 unfold stp;rw [zxh, ycg];rcases Nat.mod_two_eq_zero_or_one a with ha | ha <;> rcases Nat.mod_two_eq_zero_or_one b with hb | hb <;> simp [ha, hb]
 ·rw [Nat.xor_assoc]
 ·rw [Nat.xor_assoc, Nat.xor_assoc, Nat.xor_comm poly (b / 2)]
 ·rw [Nat.xor_assoc (a / 2) poly, ← Nat.xor_assoc poly, Nat.xor_comm poly (b / 2), Nat.xor_assoc (b / 2), Nat.xor_self, Nat.xor_zero]
theorem zou (b : Nat) : stp (2 * b) = b := by unfold stp; rw [if_neg (by omega)]; omega
theorem yho (k a b : Nat) : iter k (a ^^^ b) = iter k a ^^^ iter k b := by
 induction k generalizing a b with
 | zero => rfl
 | succ k ih => show iter k (stp (a ^^^ b)) = iter k (stp a) ^^^ iter k (stp b); rw [ydi, ih]
theorem yaf (k b : Nat) : iter k (2 ^ k * b) = b := by
 induction k with
 | zero => simp [iter]
 | succ k ih =>
  show iter k (stp (2 ^ (k + 1) * b)) = b;have e : 2 ^ (k + 1) * b = 2 * (2 ^ k * b) := by rw [Nat.pow_succ, Nat.mul_comm (2 ^ k) 2, Nat.mul_assoc]
  rw [e, zou, ih]
theorem zte (k n : Nat) : n = (n % 2 ^ k) ^^^ (2 ^ k * (n / 2 ^ k)) := by
 apply Nat.eq_of_testBit_eq;intro i;rw [Nat.testBit_xor, Nat.testBit_mod_two_pow, Nat.testBit_two_pow_mul, Nat.testBit_div_two_pow];by_cases h : i < k
 ·have h2 : ¬ k ≤ i := by omega
  simp [h, h2]
 ·have h2 : k ≤ i := by omega
  simp [h, h2]
theorem yhu (k n b : Nat) : zll k n b = iter k (n ^^^ (b % 2 ^ k)) := by
 induction k generalizing n b with
 | zero => simp [zll, iter, Nat.mod_one]
 | succ k ih =>
  show zll k (zhg n (b % 2)) (b / 2) = iter k (stp (n ^^^ (b % 2 ^ (k + 1))));rw [ih];congr 1;have e : b % 2 ^ (k + 1) = (b % 2) ^^^ (2 * (b / 2 % 2 ^ k)) := by
   have h := zte 1 (b % 2 ^ (k + 1));simp only [Nat.pow_one] at h;rw [h];have h1 : b % 2 ^ (k + 1) % 2 = b % 2 := by
    rw [Nat.pow_succ, Nat.mod_mul_left_mod]
   have h2 : b % 2 ^ (k + 1) / 2 = b / 2 % 2 ^ k := by
    rw [Nat.pow_succ, Nat.mul_comm, Nat.mod_mul_right_div_self]
   rw [h1, h2]
  rw [e, ← Nat.xor_assoc, ydi (n ^^^ (b % 2)), zou];rfl
theorem zvf (n b : Nat) (hb : b < 256) : zgt n b = zll 8 n b := by
 rw [yhu];have hb' : b % 2 ^ 8 = b := Nat.mod_eq_of_lt hb;rw [hb'];have h := zte 8 n;have e : n ^^^ b = ((n % 256) ^^^ b) ^^^ (2 ^ 8 * (n / 256)) := by
  rw [Nat.xor_assoc, Nat.xor_comm b, ← Nat.xor_assoc];congr 1
 rw [e, yho, yaf];rfl
theorem ycj : poly < 4294967296 := by decide
theorem yji {n : Nat} (h : n < 4294967296) : stp n < 4294967296 := by
 unfold stp;split
 ·exact Nat.xor_lt_two_pow (n := 32) (by omega) ycj
 ·omega
theorem zwa (k : Nat) {n : Nat} (h : n < 4294967296) : iter k n < 4294967296 := by
 induction k generalizing n with
 | zero => exact h
 | succ k ih => exact ih (yji h)
theorem ybk (k n : Nat) : iter (k + 1) n = stp (iter k n) := by
 induction k generalizing n with
 | zero => rfl
 | succ k ih => show iter (k + 1) (stp n) = stp (iter k (stp n)); exact ih (stp n)
theorem zvo {n b : Nat} (h : n < 4294967296) (hb : b < 256) : zgt n b < 4294967296 := by
 unfold zgt;refine Nat.xor_lt_two_pow (n := 32) (zwa 8 ?_) (by omega);have := Nat.xor_lt_two_pow (n := 8) (x := n % 256) (y := b) (by omega) hb;omega
theorem yeq {n : Nat} (h : n < 4294967296) (l : List UInt8) : run n l < 4294967296 := by
 induction l generalizing n with
 | nil => exact h
 | cons b l ih => exact ih (zvo h b.toNat_lt)
theorem zxj (n : Nat) (l : List UInt8) (b : UInt8) : run n (l ++ [b]) = zgt (run n l) b.toNat := by simp [run, List.foldl_append]
def carried (n : Nat) (l : List UInt8) (i : Nat) : Nat := zll (i % 8) (run n (l.take (i / 8))) (l.getD (i / 8) 0).toNat
theorem zoi (k n b : Nat) : zll (k + 1) n b = zhg (zll k n b) (b / 2 ^ k % 2) := by
 induction k generalizing n b with
 | zero => simp [zll]
 | succ k ih =>
  show zll (k + 1) (zhg n (b % 2)) (b / 2) = _;rw [ih];have e : b / 2 / 2 ^ k = b / 2 ^ (k + 1) := by rw [Nat.div_div_eq_div_mul, Nat.pow_succ, Nat.mul_comm 2]
  rw [e];rfl
theorem zso (n : Nat) (l : List UInt8) : carried n l 0 = n := by simp [carried, zll, run]
theorem zlk (n : Nat) (l : List UInt8) (i : Nat) (h : i < 8 * l.length) :
  carried n l (i + 1) = zhg (carried n l i) ((l.getD (i / 8) 0).toNat / 2 ^ (i % 8) % 2) := by
 unfold carried;have hi : i / 8 < l.length := by omega
 have hg : l.getD (i / 8) 0 = l[i / 8] := by simp [List.getD, hi]
 rcases Nat.lt_or_ge (i % 8) 7 with h7 | h7
 ·have e1 : (i + 1) % 8 = i % 8 + 1 := by omega
  have e2 : (i + 1) / 8 = i / 8 := by omega
  rw [e1, e2, zoi]
 ·have e0 : i % 8 = 7 := by omega
  have e1 : (i + 1) % 8 = 0 := by omega
  have e2 : (i + 1) / 8 = i / 8 + 1 := by omega
  rw [e1, e2, e0, ← zoi];rw [List.take_succ_eq_append_getElem hi, zxj, zvf _ _ (UInt8.toNat_lt _), hg];rfl
theorem zuu (n : Nat) (l : List UInt8) : carried n l (8 * l.length) = run n l := by
 unfold carried;have e1 : 8 * l.length % 8 = 0 := by omega
 have e2 : 8 * l.length / 8 = l.length := by omega
 rw [e1, e2, List.take_length];rfl
theorem zzt {n b : Nat} (h : n < 4294967296) (hb : b < 2) : zhg n b < 4294967296 :=
 yji (Nat.xor_lt_two_pow (n := 32) h (by omega))
theorem yhj (k : Nat) {n b : Nat} (h : n < 4294967296) : zll k n b < 4294967296 := by
 induction k generalizing n b with
 | zero => exact h
 | succ k ih => exact ih (zzt h (by omega))
theorem zkq {n : Nat} (h : n < 4294967296) (l : List UInt8) (i : Nat) : carried n l i < 4294967296 := yhj _ (yeq h _)
theorem znb (n b : Nat) (hb : b < 2) : zhg n b = if ((n % 2) ^^^ b) = 1 then (n / 2) ^^^ poly else n / 2 := by
 unfold zhg stp;rw [zxh, ycg];have h0 : b / 2 = 0 := by omega
 rw [h0, Nat.xor_zero];rcases Nat.mod_two_eq_zero_or_one n with ha | ha <;> rcases (by omega : b = 0 ∨ b = 1) with rfl | rfl <;> simp [ha]
end Go.Proofs.YtkejlnjnoiidnaaGreatDoor.Crc
end

section
namespace Go.Proofs.YtkejlnjnoiidnaaGreatDoor
def ydj (s : ByteArray) : Nat := 4294967295 - Crc.run 4294967295 s.data.toList
theorem zxk (s : ByteArray) : ydj s < 4294967296 := by unfold ydj; omega
def lowB : Nat → Nat → List UInt8
 | 0, _ => []
 | k + 1, n => UInt8.ofNat (n % 256) :: lowB k (n / 256)
theorem zqw (k n : Nat) : (lowB k n).length = k := by
 induction k generalizing n with
 | zero => rfl
 | succ k ih => simp [lowB, ih]
theorem yar (k n : Nat) : lowB (k + 1) n = lowB k n ++ [UInt8.ofNat (n / 256 ^ k % 256)] := by
 induction k generalizing n with
 | zero => simp [lowB]
 | succ k ih =>
  rw [lowB, ih (n / 256), lowB, Nat.div_div_eq_div_mul, Nat.pow_succ, Nat.mul_comm 256];rfl
theorem ydf (n : Nat) : lowB 4 n = [UInt8.ofNat (n % 256), UInt8.ofNat (n / 256 % 256), UInt8.ofNat (n / 65536 % 256), UInt8.ofNat (n / 16777216 % 256)] := by
 simp [lowB, Nat.div_div_eq_div_mul]
abbrev four (n : Nat) : ByteArray := strOf (lowB 4 n)
theorem zez (l : List UInt8) : (strOf l).size = l.length := by show l.toArray.size = _; simp
theorem zeu (a b : List UInt8) : strOf (a ++ b) = strOf a ++ strOf b := by
 apply ByteArray.ext;show (a ++ b).toArray = (strOf a ++ strOf b).data;rw [ByteArray.data_append];simp
theorem zry (s : ByteArray) : s ++ strOf [] = s := by
 apply ByteArray.ext;rw [ByteArray.data_append];simp
theorem yfi (a b c : ByteArray) : a ++ b ++ c = a ++ (b ++ c) := by
 apply ByteArray.ext;simp only [ByteArray.data_append, Array.append_assoc]
def zed (s : ByteArray) : ByteArray := s ++ four (ydj s)
theorem yco (n : Nat) : (four n).size = 4 := by rw [zez, zqw]
def zet (s : ByteArray) : ByteArray × Int := if s.size < 4 then (strOf [], 7) else if zed (s.extract 0 (s.size - 4)) = s then (s.extract 0 (s.size - 4), 0) else (strOf [], 15)
theorem zom {s : ByteArray} (h : s.size < 4) : zet s = (strOf [], 7) := by unfold zet; rw [if_pos h]
theorem zmq {s : ByteArray} (h : ¬ s.size < 4) (h2 : zed (s.extract 0 (s.size - 4)) = s) : zet s = (s.extract 0 (s.size - 4), 0) := by unfold zet; rw [if_neg h, if_pos h2]
theorem zrg {s : ByteArray} (h : ¬ s.size < 4) (h2 : ¬ zed (s.extract 0 (s.size - 4)) = s) : zet s = (strOf [], 15) := by unfold zet; rw [if_neg h, if_neg h2]
end Go.Proofs.YtkejlnjnoiidnaaGreatDoor
end

section
namespace Go.Proofs.YtkejlnjnoiidnaaGreatDoor
open Go.RowKit As
def zef (l : List Tok) (k : Nat) : List UInt8 := (l.take k).flatMap zfs
theorem zni {l : List Tok} {k : Nat} {t : Tok} (h : l[k]? = some t) : zef l (k + 1) = zef l k ++ zfs t := by
 obtain ⟨hk, e⟩ := List.getElem?_eq_some_iff.1 h;unfold zef;rw [List.take_succ_eq_append_getElem hk, e, List.flatMap_append]; simp
theorem zon {l : List Tok} (h : (zaz l).1 ≠ 0) : zgx l = (⟨#[]⟩, zaz l) := by unfold zgx; rw [if_pos h]
theorem znq {l : List Tok} (h : (zaz l).1 = 0) : zgx l = (strOf (l.flatMap zfs), 0, -1) := by unfold zgx; rw [if_neg (by omega)]
theorem zoc {t : Tok} (h : t.1.size ≠ 0) : zfs t = vput (2 * t.1.size) ++ t.1.data.toList := by unfold zfs; rw [if_pos h]
theorem zor {t : Tok} (h : t.1.size = 0) : zfs t = vput (2 * (t.2.2 - 4).toNat + 1) ++ vput (t.2.1 - 1).toNat := by unfold zfs; rw [if_neg (by omega)]
theorem zqh (s : ByteArray) : strOf s.data.toList = s := by
 apply ByteArray.ext; simp
theorem zum {n : Nat} {V : ByteArray} (hV : Hid (V = strOf (vput n))) (hn : n < 18446744073709551616) (w : World) : Calls Tryz.prog 38 #[.int .u64 (n : Int)] w fun e w' => e = .returned (.string V) ∧ Below w.heap.size w w' :=
 (zbm n w hn).mono fun _ _ h => ⟨by rw [hV.out]; exact h.1, h.2⟩
theorem zkp {n : Nat} {V : ByteArray} (hV : Hid (V = strOf (vput n))) (hn : n < 18446744073709551616) : V.size ≤ 10 := by
 rw [hV.out, zez]; exact zae hn
set_option maxHeartbeats 2000000 in
set_option maxRecDepth 100000 in
theorem zze (w : World) (n c : Nat) (A : Option Addr) (l : List Tok) (hl : Toks w w.heap.size A n l) (hn : n * 32 ≤ 140737488351232) :
  Calls Tryz.prog 95 #[.slice A n c] w fun e w' => ∃ v, e = .returned (.tuple #[.string (zgx l).1, v]) ∧ zck w' v (zgx l).2 ∧ Below w.heap.size w w' := by
 have hlen := Lib.hid hl.len;have hnM : n ≤ maxLen := by unfold maxLen; omega
 by_cases hbad : (zaz l).1 ≠ 0
 ·have HB := Lib.hid hbad;clear hbad;go_enter Tryz.func95, Tryz.ntmps95;go_wp2_with fail;refine (zgh w n c A l hl hnM).mono ?_;rintro e w1 ⟨v, rfl, hv, hb⟩;unfold zck at hv;have hR := Lib.hid (zon HB.out);have hbad := HB.out;generalize hF : zaz l = f at *;obtain ⟨e1, p1⟩ := f;simp only at hv hbad;have HV := Lib.hid hv;clear hF;cases hv with
  | none => exact absurd rfl hbad
  | bare _ he =>
   clear hbad he;go_wp2;go_ret2;rw [hR.out];exact ⟨_, rfl, HV.out, hb⟩
  | at_ b o _ _ he h0 h1 =>
   clear hbad he h0 h1;go_wp2;go_ret2;rw [hR.out];exact ⟨_, rfl, HV.out, hb⟩
 ·have h0 : (zaz l).1 = 0 := by omega
  have hok := Lib.hid (zhu h0);have hpl := zfr h0;have hR := Lib.hid (znq h0);have hP := Lib.hid hpl;clear hbad h0 hpl;go_enter Tryz.func95, Tryz.ntmps95;go_wp2_with fail;refine (zgh w n c A l hl hnM).mono ?_;rintro e w1 ⟨v, rfl, hv, hb⟩;rw [hP.out] at hv;obtain ⟨rfl, _⟩ := zbo.zero hv;have hl1 := hl.grow hb;clear hv;go_wp2;go_loopw [5, 7, 15] (fun v _ i wr => ∃ k q : Nat, k ≤ n ∧ i = .int .i64 k ∧ TOk (l.drop k) q ∧ v = .string (strOf (zef l k)) ∧ Hid ((zef l k).length ≤ q + 30 * k) ∧ Below w1.heap.size w1 wr) (fun _ _ i _ => n - (intOf i).toNat)
  case atStart => exact ⟨0, 0, by omega, rfl, hok.out, rfl, Lib.hid (by simp [zef]), Below.refl _ _⟩
  case round =>
   obtain ⟨k, q, hk, rfl, hto, rfl, hbl, hbel⟩ := hrel;have hB := hbel.size;by_cases hlt : k < n
   ·obtain ⟨b, o, s, r, t, rfl, hb', hx, hf, c0, c1, c2⟩ := hl1.at_ hlt;have c0 := (hbel.cell (p := ⟨b, o + k * 3, none⟩) (by simp; omega)).trans c0;have c1 := (hbel.cell (p := ⟨b, o + k * 3 + 1, none⟩) (by simp; omega)).trans c1;have c2 := (hbel.cell (p := ⟨b, o + k * 3 + 2, none⟩) (by simp; omega)).trans c2;have hsf := Lib.hid (zni hx);have hle := hto.le;have hTl := zez (zef l k);have hbl2 := hbl.out;obtain ⟨T, hT⟩ : ∃ T, T = strOf (zef l k) := ⟨_, rfl⟩;rw [← hT] at hTl ⊢;have HT := Lib.hid hT;clear hT;by_cases h1 : s.size = 0
    ·obtain ⟨q0, q1, q2, q3, q4, q5⟩ := zqg hto hx h1;simp only at q0 q1 q2 q3 q4 q5;have htb := Lib.hid (zor (t := (s, r, t)) h1);obtain ⟨z, rfl⟩ := Int.eq_ofNat_of_zero_le (show 0 ≤ t by omega);obtain ⟨y, rfl⟩ := Int.eq_ofNat_of_zero_le (show 0 ≤ r by omega);have hE : s.toList.isEmpty = true := yne h1;have e1 : IntKind.i64.wrap ((z : Int) - 4) = ((z - 4 : Nat) : Int) := by rw [IntWalk.i64_in _ (by omega)]; omega
     have e2 : IntKind.i64.wrap ((y : Int) - 1) = ((y - 1 : Nat) : Int) := by rw [IntWalk.i64_in _ (by omega)]; omega
     have X := Lib.hid hx;have Q5 := Lib.hid q5;clear hto hx hf h1 q5;have k0 := Inv.cell (w := wr.alloc (.cells #[.string s, .int .i64 y, .int .i64 z] 174)) (a := ⟨wr.heap.size, 1, none⟩) (v := .int .i64 y) (by rw [World.cell?_alloc_new]; rfl);have k1 := Inv.cell (w := wr.alloc (.cells #[.string s, .int .i64 y, .int .i64 z] 174)) (a := ⟨wr.heap.size, 2, none⟩) (v := .int .i64 z) (by rw [World.cell?_alloc_new]; rfl);have hlt1 : 2 * (z - 4) + 1 < 18446744073709551616 := by omega
     have hlt2 : y - 1 < 18446744073709551616 := by omega
     have hor := Lib.hid (show bits BinOp.or IntKind.u64 (((z - 4 : Nat) : Int) * 2) 1 = ((2 * (z - 4) + 1 : Nat) : Int) by
      have e := u64_or_nat (2 * (z - 4)) 1 (by omega) (by omega);rw [nat_join 1 _ _ (by omega) (by omega)] at e;rw [← e];congr 1;omega)
     obtain ⟨V, hV⟩ : ∃ V, Hid (V = strOf (vput (2 * (z - 4) + 1))) := ⟨_, Lib.hid rfl⟩;obtain ⟨U, hU⟩ : ∃ U, Hid (U = strOf (vput (y - 1))) := ⟨_, Lib.hid rfl⟩;have hVs := zkp hV hlt1;have hUs := zkp hU hlt2;have z1 : ¬ 9223372036854775807 < V.size + U.size := by omega
     have z2 : ¬ 9223372036854775807 < T.size + (V.size + U.size) := by omega
     have htb2 := Lib.hid (show zfs (s, (y : Int), (z : Int)) = vput (2 * (z - 4) + 1) ++ vput (y - 1) by
      rw [htb.out];have a1 : ((z : Int) - 4).toNat = z - 4 := by omega
      have a2 : ((y : Int) - 1).toNat = y - 1 := by omega
      simp only [a1, a2])
     go_wp2;refine zbg (by kernel_rfl) (by kernel_rfl) ?_;repeat (go_big_quiet_step ((first
      | (go_at_call 38; rw [hor.out]; exact Calls.inv_of (zum hV hlt1 _))
      | (go_at_call 38; exact Calls.inv_of (zum hU hlt2 _)))))
     refine wpQuiet_nil ?_;intro _ hw';obtain ⟨x, rfl⟩ := hw';have hbx := x.below;go_wp2;go_roundw
     case rel => exact ⟨k + 1, q + z, by omega, by go_num, Q5.out, by rw [hsf.out, htb2.out, zeu, zeu, HT.out, hV.out, hU.out], Lib.hid (by rw [hsf.out, htb2.out]; simp only [List.length_append]; have := zae hlt1; have := zae hlt2; omega), hbel.trans ((zaa wr _).trans (hbx.mono (by simp)) |>.mono hB)⟩
     case measure => simp [intOf]; omega
    ·obtain ⟨q0, q1, q2, q3⟩ := zrd hto hx h1;simp only at q0 q1 q2 q3;subst q0 q1;have htb := Lib.hid (zoc (t := (s, 0, 0)) h1);have hE : s.toList.isEmpty = false := zve h1;have Q3 := Lib.hid q3;have X := Lib.hid hx;have hlt64 : 2 * s.size < 18446744073709551616 := by omega
     have hu64 := Lib.hid (show (s.size : Int) * 2 = ((2 * s.size : Nat) : Int) by omega);clear hto hx hf h1 q3;have k0 := Inv.cell (w := wr.alloc (.cells #[.string s, .int .i64 0, .int .i64 0] 174)) (a := ⟨wr.heap.size, 0, none⟩) (v := .string s) (by rw [World.cell?_alloc_new]; rfl);obtain ⟨V, hV⟩ : ∃ V, Hid (V = strOf (vput (2 * s.size))) := ⟨_, Lib.hid rfl⟩;have hVs := zkp hV hlt64;have z1 : ¬ 9223372036854775807 < V.size + s.size := by omega
     have z2 : ¬ 9223372036854775807 < T.size + (V.size + s.size) := by omega
     go_wp2;refine zbg (by kernel_rfl) (by kernel_rfl) ?_;repeat (go_big_quiet_step ((first
      | (go_at_call 38; rw [hu64.out]; exact Calls.inv_of (zum hV hlt64 _)))))
     refine wpQuiet_nil ?_;intro _ hw';obtain ⟨x, rfl⟩ := hw';have hbx := x.below;go_wp2;go_roundw
     case rel => exact ⟨k + 1, q + s.size, by omega, by go_num, Q3.out, by rw [hsf.out, htb.out, zeu, zeu, zqh, HT.out, hV.out], Lib.hid (by rw [hsf.out, htb.out]; simp only [List.length_append, zjq]; have := zae hlt64; omega), hbel.trans ((zaa wr _).trans (hbx.mono (by simp)) |>.mono hB)⟩
     case measure => simp [intOf]; omega
   ·obtain rfl : k = n := by omega
    have hend := Lib.hid (show zef l k = l.flatMap zfs by unfold zef; rw [List.take_of_length_le (by rw [hlen.out]; exact Nat.le_refl _)]);go_wp2;go_ret2;rw [hR.out, hend.out];exact ⟨_, rfl, .none, hb.trans (hbel.mono hb.size)⟩
end Go.Proofs.YtkejlnjnoiidnaaGreatDoor
end

section
namespace Go.Proofs.YtkejlnjnoiidnaaGreatDoor
open Go.RowKit As
set_option maxHeartbeats 2000000 in
set_option maxRecDepth 100000 in
theorem zfp (w : World) (n c : Nat) (A : Option Addr) (l : List Tok) (hl : Toks w w.heap.size A n l) (hn : n ≤ maxLen) :
  Calls Tryz.prog 127 #[.slice A n c] w fun e w' => e = .returned (zba (zaz l)) ∧ Below w.heap.size w w' := by
 unfold maxLen at hn;have hlen := Lib.hid hl.len;go_enter Tryz.func127, Tryz.ntmps127;go_wp2;go_loopw [3, 4, 5, 8] (fun m _ _ i wr => ∃ k p : Nat, k ≤ n ∧ i = .int .i64 k ∧ m = .int .i64 p ∧ TAt l k p ∧ Two wr w.heap.size 0 0 ∧ Below w.heap.size w wr) (fun _ _ _ i _ => n - (intOf i).toNat)
 case atStart => exact ⟨0, 0, by omega, rfl, rfl, TAt.zero l, Two.new _ _ _ _, zaa _ _⟩
 case round =>
  obtain ⟨k, p, hk, rfl, rfl, hat, hT, hbel⟩ := hrel;have hp := hat.2;have Hat := Lib.hid hat;clear hat;obtain ⟨g0, g1, f0, f1⟩ := hT;have hs : w.heap.size < wr.heap.size := cell_lt g0;by_cases hlt : k < n
  ·obtain ⟨b, o, s, r, t, rfl, hb, hx, hf, c0, c1, c2⟩ := hl.at_ hlt;have c0 := (hbel.cell (p := ⟨b, o + k * 3, none⟩) (by simp; omega)).trans c0;have c1 := (hbel.cell (p := ⟨b, o + k * 3 + 1, none⟩) (by simp; omega)).trans c1;have c2 := (hbel.cell (p := ⟨b, o + k * 3 + 2, none⟩) (by simp; omega)).trans c2;have hX := Lib.hid hx;obtain ⟨f3, f4, f5⟩ := hf;simp only at f3 f4 f5;clear hx;by_cases ha : zdq (s, r, t)
   ·have hres := Lib.hid (Hat.out.arg hX.out ha);have hparts : (s.toList.isEmpty = true ∧ (t == 0) = true ∧ (r == 0) = true) ∨ (s.toList.isEmpty = false ∧ (t != 0) = true) ∨ (s.toList.isEmpty = false ∧ (t != 0) = false ∧ (r != 0) = true) := by
     unfold zdq at ha;simp only at ha;rw [zge];simp only [decide_eq_true_eq, decide_eq_false_iff_not, bne_iff_ne, bne_eq_false_iff_eq, beq_iff_eq];omega
    clear ha;have S := zen (.int .i64 1) (.int .i64 (k : Int)) (.cells #[.string s, .int .i64 r, .int .i64 t] 174) hs g0 g1;rcases hparts with ⟨d0, d1, d2⟩ | ⟨d0, d1⟩ | ⟨d0, d1, d2⟩
    all_goals
     go_wp2_with fail;exact bodyPost_ret (v := .agg #[.int .i64 1, .int .i64 (k : Int)]) (by simp [results, Tryz.results127, go_sem, S.1, S.2]) rfl ⟨by rw [hres.out]; rfl, (zai _ _ hbel (Nat.le_refl _)).alloc (by simp; omega) _⟩
   ·by_cases h1 : s.size = 0
    ·have hparts : (s.toList.isEmpty = true ∧ (t == 0) = false) ∨ (s.toList.isEmpty = true ∧ (t == 0) = true ∧ (r == 0) = false) := by
      unfold zdq at ha;simp only at ha;rw [zge];simp only [decide_eq_true_eq, beq_iff_eq, beq_eq_false_iff_ne];omega
     have Ha := Lib.hid ha;have H1 := Lib.hid h1;clear ha h1;by_cases h2 : zcs (s, r, t)
     ·have hres := Lib.hid (Hat.out.range hX.out Ha.out H1.out h2);have hq : inB t 4 67 = false ∨ (inB t 4 67 = true ∧ inB r 1 1024 = false) := by
       unfold zcs at h2;unfold inB;simp only at h2;simp only [decide_eq_true_eq, decide_eq_false_iff_not];omega
      clear h2;have S := zen (.int .i64 2) (.int .i64 (k : Int)) (.cells #[.string s, .int .i64 r, .int .i64 t] 174) hs g0 g1;rcases hq with e0 | ⟨e0, e1⟩
      ·have E0 := Lib.hid e0;clear e0;rcases hparts with ⟨d0, d1⟩ | ⟨d0, d1, d2⟩
       all_goals
        go_wp2_with fail;refine (zad E0 _).mono ?_;rintro e w' ⟨rfl, rfl⟩;go_wp2;exact bodyPost_ret (v := .agg #[.int .i64 2, .int .i64 (k : Int)]) (by simp [results, Tryz.results127, go_sem, S.1, S.2]) rfl ⟨by rw [hres.out]; rfl, (zai _ _ hbel (Nat.le_refl _)).alloc (by simp; omega) _⟩
      ·have E0 := Lib.hid e0;have E1 := Lib.hid e1;clear e0 e1;rcases hparts with ⟨d0, d1⟩ | ⟨d0, d1, d2⟩
       all_goals
        go_wp2_with fail;refine (zad E0 _).mono ?_;rintro e w' ⟨rfl, rfl⟩;go_wp2_with fail;refine (zad E1 _).mono ?_;rintro e w' ⟨rfl, rfl⟩;go_wp2;exact bodyPost_ret (v := .agg #[.int .i64 2, .int .i64 (k : Int)]) (by simp [results, Tryz.results127, go_sem, S.1, S.2]) rfl ⟨by rw [hres.out]; rfl, (zai _ _ hbel (Nat.le_refl _)).alloc (by simp; omega) _⟩
     ·have ht : 4 ≤ t ∧ t ≤ 67 ∧ 1 ≤ r ∧ r ≤ 1024 := by unfold zcs at h2; simp only at h2; omega
      have E0 := Lib.hid (show inB t 4 67 = true by unfold inB; simp; omega);have E1 := Lib.hid (show inB r 1 1024 = true by unfold inB; simp; omega);obtain ⟨q0, q1, q2, q3⟩ := ht;have H2 := Lib.hid h2;clear h2;by_cases h3 : (p : Int) < r
      ·have hres := Lib.hid (Hat.out.missing hX.out Ha.out H1.out H2.out h3);have e4 : decide ((p : Int) < r) = true := by simpa using h3
       clear h3;have S := zen (.int .i64 7) (.int .i64 (k : Int)) (.cells #[.string s, .int .i64 r, .int .i64 t] 174) hs g0 g1;rcases hparts with ⟨d0, d1⟩ | ⟨d0, d1, d2⟩
       all_goals
        go_wp2_with fail;refine (zad E0 _).mono ?_;rintro e w' ⟨rfl, rfl⟩;go_wp2_with fail;refine (zad E1 _).mono ?_;rintro e w' ⟨rfl, rfl⟩;go_wp2;exact bodyPost_ret (v := .agg #[.int .i64 7, .int .i64 (k : Int)]) (by simp [results, Tryz.results127, go_sem, S.1, S.2]) rfl ⟨by rw [hres.out]; rfl, (zai _ _ hbel (Nat.le_refl _)).alloc (by simp; omega) _⟩
      ·have e4 : decide ((p : Int) < r) = false := by simpa using h3
       have H3 := Lib.hid h3;clear h3;by_cases h4 : 20000 < p + t.toNat
       ·have hres := Lib.hid (Hat.out.big hX.out Ha.out H1.out H2.out H3.out h4);have e5 : decide (20000 < (p : Int) + t) = true := by simp; omega
        clear h4;have S := zen (.int .i64 4) (.int .i64 (k : Int)) (.cells #[.string s, .int .i64 r, .int .i64 t] 174) hs g0 g1;rcases hparts with ⟨d0, d1⟩ | ⟨d0, d1, d2⟩
        all_goals
         go_wp2_with fail;refine (zad E0 _).mono ?_;rintro e w' ⟨rfl, rfl⟩;go_wp2_with fail;refine (zad E1 _).mono ?_;rintro e w' ⟨rfl, rfl⟩;go_wp2;exact bodyPost_ret (v := .agg #[.int .i64 4, .int .i64 (k : Int)]) (by simp [results, Tryz.results127, go_sem, S.1, S.2]) rfl ⟨by rw [hres.out]; rfl, (zai _ _ hbel (Nat.le_refl _)).alloc (by simp; omega) _⟩
       ·have hnext := Lib.hid (Hat.out.next hX.out Ha.out H1.out H2.out H3.out h4);have e5 : decide (20000 < (p : Int) + t) = false := by simp; omega
        have H4 := Lib.hid h4;clear h4;rcases hparts with ⟨d0, d1⟩ | ⟨d0, d1, d2⟩
        all_goals
         go_wp2_with fail;refine (zad E0 _).mono ?_;rintro e w' ⟨rfl, rfl⟩;go_wp2_with fail;refine (zad E1 _).mono ?_;rintro e w' ⟨rfl, rfl⟩;go_wp2;go_roundw
         case rel => exact ⟨k + 1, p + t.toNat, by omega, by go_num, valI (by omega), hnext.out, (Two.mk g0 g1 f0 f1).below (zaa _ _), hbel.alloc (by omega) _⟩
         case measure => simp [intOf]; omega
    ·have d0 : s.toList.isEmpty = false := zve h1;have hz : t = 0 ∧ r = 0 := by unfold zdq at ha; simp only at ha; omega
     obtain ⟨rfl, rfl⟩ := hz;have Ha := Lib.hid ha;have H1 := Lib.hid h1;clear ha h1;by_cases h2 : 20000 < p + s.size
     ·have hres := Lib.hid (Hat.out.yiy hX.out Ha.out H1.out h2);have e5 : decide (20000 < (p : Int) + (s.size : Int)) = true := by simp; omega
      clear h2;have S := zen (.int .i64 4) (.int .i64 (k : Int)) (.cells #[.string s, .int .i64 0, .int .i64 0] 174) hs g0 g1;go_wp2;exact bodyPost_ret (v := .agg #[.int .i64 4, .int .i64 (k : Int)]) (by simp [results, Tryz.results127, go_sem, S.1, S.2]) rfl ⟨by rw [hres.out]; rfl, (zai _ _ hbel (Nat.le_refl _)).alloc (by simp; omega) _⟩
     ·have hnext := Lib.hid (Hat.out.yfj hX.out Ha.out H1.out h2);have e5 : decide (20000 < (p : Int) + (s.size : Int)) = false := by simp; omega
      have e6 : s.size ≤ 20000 := by omega
      have e7 : wrap64 ((p : Int) + (s.size : Int)) = (p : Int) + (s.size : Int) := by unfold wrap64; omega
      go_wp2;go_roundw
      case rel => exact ⟨k + 1, p + s.size, by omega, by go_num, by go_num, hnext.out, (Two.mk g0 g1 f0 f1).below (zaa _ _), hbel.alloc (by omega) _⟩
      case measure => simp [intOf]; omega
  ·obtain rfl : k = n := by omega
   have hend := Lib.hid (Hat.out.all (by rw [hlen.out]; exact Nat.le_refl _));clear hlt;go_wp2_with fail;refine (zdy _).mono ?_;rintro e w' ⟨rfl, hb⟩;have f0 := (hb.frozen (p := ⟨w.heap.size, 0, none⟩) hs).trans f0;have f1 := (hb.frozen (p := ⟨w.heap.size, 1, none⟩) hs).trans f1;have g0 := (hb.cell (p := ⟨w.heap.size, 0, none⟩) hs).trans g0;have g1 := (hb.cell (p := ⟨w.heap.size, 1, none⟩) hs).trans g1;have S := set2 (.int .i64 0) (.int .i64 (-1)) g0 g1;go_wp2;exact bodyPost_ret (v := .agg #[.int .i64 0, .int .i64 (-1)]) (by simp [results, Tryz.results127, go_sem, S.1, S.2]) rfl ⟨by rw [hend.out]; rfl, zai _ _ (hbel.trans (hb.mono (by omega))) (Nat.le_refl _)⟩
end Go.Proofs.YtkejlnjnoiidnaaGreatDoor
end

section
namespace Go.Proofs.YtkejlnjnoiidnaaGreatDoor
open Go.RowKit As
theorem zcd (f : Int × Int) (w : World) : Calls Tryz.prog 27 #[.agg #[.int .i64 f.1, .int .i64 f.2]] w fun r w' => r = .returned (.bool (f.1 == 0)) ∧ Below w.heap.size w w' := by
 go_enter Tryz.func27, Tryz.ntmps27;go_wp2;go_ret;exact ⟨rfl, zaa _ _⟩
end Go.Proofs.YtkejlnjnoiidnaaGreatDoor
end

section
namespace Go.Proofs.YtkejlnjnoiidnaaGreatDoor
open Go.RowKit As
theorem zua (l : List UInt8) (a b : Nat) : (strOf l).extract a b = strOf ((l.drop a).take (b - a)) := by
 apply ByteArray.ext;simp [ByteArray.data_extract]
def strLen : Value → Nat
 | .string s => s.size
 | _ => 0
theorem ztd (s : ByteArray) : strOf s.data.toList = s := by
 apply ByteArray.ext; simp
set_option maxHeartbeats 2000000 in
set_option maxRecDepth 100000 in
theorem ycf (w : World) (n c : Nat) (A : Option Addr) (l : List Tok) (hl : Toks w w.heap.size A n l) (hn : n ≤ maxLen) :
  Calls Tryz.prog 112 #[.slice A n c] w fun e w' => e = .returned (.tuple #[.string (textOf l).1, zba (textOf l).2]) ∧ Below w.heap.size w w' := by
 have hlen := Lib.hid hl.len;by_cases hbad : (zaz l).1 ≠ 0
 ·have HB := Lib.hid hbad;have hR := Lib.hid (zxf hbad);clear hbad;go_enter Tryz.func112, Tryz.ntmps112;go_wp2_with fail;refine (zfp _ n c A l (hl.grow (zaa _ _)) hn).mono ?_;rintro e w1 ⟨rfl, hb⟩;unfold zba;have hbad := HB.out;generalize hF : zaz l = f at *;clear hF;obtain ⟨e1, p1⟩ := f;simp only at hbad;go_wp2_with fail;refine (zcd (e1, p1) _).mono ?_;rintro r w2 ⟨rfl, hb2⟩;have hne : (e1 == 0) = false := beq_eq_false_iff_ne.2 hbad;have T0 := (((Two.new w 0 0 29).below hb).below (zaa w1 (.cells #[.int .i64 e1, .int .i64 p1] 29))).below hb2;have T1 := (Two.new w1 e1 p1 29).below hb2;have hz := hb.size;simp only [World.size_alloc] at hz;have hbb : Below w.heap.size w w2 := ((zaa _ _).trans (hb.mono (by simp))).trans (((zaa w1 _).trans (hb2.mono (by simp))).mono (by omega));obtain ⟨c0, c1, f0, f1⟩ := T0;obtain ⟨d0, d1, g0, g1⟩ := T1;simp only [hne];go_wp2_with fail;go_region;have S := set2 (.int .i64 e1) (.int .i64 p1) c0 c1;go_wp2;exact bodyPost_ret (v := .tuple #[.string ⟨#[]⟩, .agg #[.int .i64 e1, .int .i64 p1]]) (by simp [results, Tryz.results112, go_sem, S.1, S.2]) rfl ⟨by rw [hR.out]; rfl, (zai _ _ hbb (Nat.le_refl _)).drew⟩
 ·have h0 : (zaz l).1 = 0 := by omega
  have hok := Lib.hid (zhu h0);have hP := Lib.hid (zfr h0);have hR := Lib.hid (zrm h0);clear hbad h0;unfold maxLen at hn;go_enter Tryz.func112, Tryz.ntmps112;go_wp2_with fail;refine (zfp _ n c A l (hl.grow (zaa _ _)) (by unfold maxLen; omega)).mono ?_;rintro e w1 ⟨rfl, hb⟩;rw [hP.out];unfold zba;go_wp2_with fail;refine (zcd (0, -1) _).mono ?_;rintro r w2 ⟨rfl, hb2⟩;have hne : ((0 : Int) == 0) = true := rfl;have T0 := (((Two.new w 0 0 29).below hb).below (zaa w1 (.cells #[.int .i64 0, .int .i64 (-1)] 29))).below hb2;have hz := hb.size;simp only [World.size_alloc] at hz;have hbb : Below w.heap.size w w2 := ((zaa _ _).trans (hb.mono (by simp))).trans (((zaa w1 _).trans (hb2.mono (by simp))).mono (by omega));have hl2 := hl.grow hbb;have hw0 : w.heap.size < w2.heap.size := T0.lt;simp only [hne];clear hb hb2 hz hl;go_wp2;go_loopw [5, 7, 8, 17] (fun v _ _ i wr => ∃ k : Nat, k ≤ n ∧ i = .int .i64 k ∧ TOk (l.drop k) (zcr l k).length ∧ v = .string (strOf (zcr l k)) ∧ Below w2.heap.size w2 wr) (fun _ _ _ i _ => n - (intOf i).toNat)
  case atStart => exact ⟨0, by omega, rfl, hok.out, rfl, Below.refl _ _⟩
  case round =>
   obtain ⟨k, hk, rfl, hto, rfl, hbel⟩ := hrel;have hB := hbel.size;by_cases hlt : k < n
   ·obtain ⟨b, o, s, r, t, rfl, hb', hx, hf, c0, c1, c2⟩ := hl2.at_ hlt;have c0 := (hbel.cell (p := ⟨b, o + k * 3, none⟩) (by simp; omega)).trans c0;have c1 := (hbel.cell (p := ⟨b, o + k * 3 + 1, none⟩) (by simp; omega)).trans c1;have c2 := (hbel.cell (p := ⟨b, o + k * 3 + 2, none⟩) (by simp; omega)).trans c2;have hsf := Lib.hid (znh hx);have hle := hto.le;by_cases h1 : s.size = 0
    ·obtain ⟨q0, q1, q2, q3, q4, q5⟩ := zqg hto hx h1;simp only at q0 q1 q2 q3 q4 q5;have hst := Lib.hid (show zcr l (k + 1) = rep (zcr l k) r.toNat t.toNat by rw [hsf.out]; unfold zny; rw [if_neg (by simpa using h1)]);obtain ⟨z, rfl⟩ := Int.eq_ofNat_of_zero_le (show 0 ≤ t by omega);obtain ⟨y, rfl⟩ := Int.eq_ofNat_of_zero_le (show 0 ≤ r by omega);rw [Int.toNat_natCast, Int.toNat_natCast] at hst;rw [Int.toNat_natCast] at q4 q5;have Q5 := Lib.hid q5;have X := Lib.hid hx;have hs0 : s = ⟨#[]⟩ := by
      apply ByteArray.ext;apply Array.eq_empty_of_size_eq_zero;simpa using h1
     subst hs0;have z0 : (⟨#[]⟩ : ByteArray).size = 0 := rfl;have hlr := Lib.hid (zqs (zcr l k) y z);have hov := Lib.hid (yih (zcr l k) y z (by omega) (by omega));clear hto hx hf h1 q5 hsf;generalize hacc : zcr l k = acc at *;have HA := Lib.hid hacc;clear hacc;have hpl : (acc.drop (acc.length - y)).length = y := by simp; omega
     have hTl := zez acc;have hex := zua acc (acc.length - y) acc.length;rw [List.take_of_length_le (by rw [hpl]; omega)] at hex;have hself := over_self (acc.drop (acc.length - y));rw [hpl] at hself;obtain ⟨P, hP⟩ : ∃ P, P = acc.drop (acc.length - y) := ⟨_, rfl⟩;rw [← hP] at hself hpl hex hov;obtain ⟨T, hT⟩ : ∃ T, T = strOf acc := ⟨_, rfl⟩;have hnil := Lib.hid (zry T);rw [← hT] at hTl hex ⊢;have HEX := Lib.hid hex;have HSELF := Lib.hid hself;have HPL := Lib.hid hpl;have HT := Lib.hid hT;have HPP := Lib.hid hP;clear hT hP hex hself hpl;have hcat : T.size + (⟨#[]⟩ : ByteArray).size ≤ 9223372036854775807 := by omega
     have hE : T ++ (⟨#[]⟩ : ByteArray) = T := hnil.out;go_wp2;rw [HEX.out];go_loop [8] (fun v => ∃ m : Nat, 1 ≤ m ∧ m * y ≤ 100000 ∧ v = .string (strOf (over P (m * y)))) (fun v => z - strLen v)
     case atStart => exact ⟨1, by omega, by omega, by rw [Nat.one_mul, HSELF.out]⟩
     case round =>
      obtain ⟨m, hm, hm2, rfl⟩ := hrel;have hlo : (strOf (over P (m * y))).size = m * y := by rw [zez, zdo]
      have hdb := Lib.hid (zvj P (over P (m * y)) m (by rw [HPL.out]));have hmy : y ≤ m * y := Nat.le_mul_of_pos_left y hm;have h2m : 2 * m * y = m * y + m * y := by rw [Nat.mul_assoc, Nat.two_mul]
      rw [HPL.out] at hdb;have hadd := Lib.hid (zeu (over P (m * y)) (over P (m * y)));obtain ⟨q, hq⟩ : ∃ q, q = m * y := ⟨_, rfl⟩;rw [← hq] at hlo hdb hmy h2m hadd hm2 ⊢;obtain ⟨U, hU⟩ : ∃ U, U = strOf (over P q) := ⟨_, rfl⟩;rw [← hU] at hlo hadd ⊢;have HU := Lib.hid hU;have HQ := Lib.hid hq;have H2 := Lib.hid h2m;clear hU hq h2m;by_cases hlt2 : q < z
      ·have hc2 : U.size + U.size ≤ 9223372036854775807 := by omega
       go_wp2;go_round
       case rel => exact ⟨2 * m, by omega, by rw [H2.out]; omega, by rw [← hadd.out, hdb.out]⟩
       case measure => simp only [strLen, ByteArray.size_append]; omega
      ·have hex2 := Lib.hid (zua (over P q) 0 z);have htk := Lib.hid (yay P z q (by omega));rw [← HU.out] at hex2;rw [List.drop_zero, Nat.sub_zero, htk.out] at hex2;have hle3 : z ≤ q := by omega
       have hsz3 : (strOf (over P z)).size = z := by rw [zez, zdo]
       obtain ⟨V, hV⟩ : ∃ V, V = strOf (over P z) := ⟨_, rfl⟩;rw [← hV] at hsz3 hex2;have HV := Lib.hid hV;clear hV;have hc3 : T.size + V.size ≤ 9223372036854775807 := by omega
       have hX3 : U.extract 0 z = V := hex2.out;go_wp2;go_roundw
       case rel => exact ⟨k + 1, by omega, by go_num, by rw [hst.out, hlr.out]; exact Q5.out, by rw [hst.out, hov.out, zeu, HT.out, HV.out], hbel.alloc hB _⟩
       case measure => simp [intOf]; omega
    ·obtain ⟨q0, q1, q2, q3⟩ := zrd hto hx h1;simp only at q0 q1 q2 q3;subst q0 q1;have hst := Lib.hid (show zcr l (k + 1) = zcr l k ++ s.data.toList by rw [hsf.out]; unfold zny; rw [if_pos h1]);have Q3 := Lib.hid q3;have X := Lib.hid hx;clear hto hx hf h1 q3 hsf;generalize hacc : zcr l k = acc at *;have HA := Lib.hid hacc;clear hacc;have hTl := zez acc;obtain ⟨T, hT⟩ : ∃ T, T = strOf acc := ⟨_, rfl⟩;rw [← hT] at hTl ⊢;have HT := Lib.hid hT;clear hT;have hcat : T.size + s.size ≤ 9223372036854775807 := by omega
     go_wp2;go_roundw
     case rel => exact ⟨k + 1, by omega, by go_num, by rw [hst.out, List.length_append, zjq]; exact Q3.out, by rw [hst.out, zeu, ztd, HT.out], hbel.alloc hB _⟩
     case measure => simp [intOf]; omega
   ·obtain rfl : k = n := by omega
    have hend := Lib.hid (show zcr l k = ztn l by unfold zcr ztn; rw [List.take_of_length_le (by rw [hlen.out]; exact Nat.le_refl _)]);go_wp2_with fail;refine (zdy _).mono ?_;rintro e w3 ⟨rfl, hb3⟩;have hb4 := hbb.trans ((hbel.trans (hb3.mono hB)).mono hbb.size);obtain ⟨c0, c1, f0, f1⟩ := T0.keep (hbel.trans (hb3.mono hB)) hw0;have S := set2 (.int .i64 0) (.int .i64 (-1)) c0 c1;go_wp2;exact bodyPost_ret (v := .tuple #[.string (strOf (zcr l k)), .agg #[.int .i64 0, .int .i64 (-1)]]) (by simp [results, Tryz.results112, go_sem, S.1, S.2]) rfl ⟨by rw [hR.out, hend.out]; rfl, zai _ _ hb4 (Nat.le_refl _)⟩
end Go.Proofs.YtkejlnjnoiidnaaGreatDoor
end

section
namespace Go.Proofs.YtkejlnjnoiidnaaGreatDoor
theorem yks : ∀ n : Fin 128, (Lib.bitLen n.val + 6) / 7 ≤ 1 := by decide +kernel
theorem zzq {n : Nat} (h : n ≠ 0) : 0 < Lib.bitLen n := by
 unfold Lib.bitLen Lib.bitLenAux;rw [if_neg h];omega
theorem yfl (f : Nat) : ∀ n : Nat, n < 128 ^ f → n < 18446744073709551616 → (vput n).length = max 1 ((Lib.bitLen n + 6) / 7) := by
 induction f with
 | zero =>
  intro n h _;obtain rfl : n = 0 := by simpa using h
  rw [zec (by omega)];decide
 | succ f ih =>
  intro n h hn;by_cases h7 : n < 128
  ·rw [zec h7];have := yks ⟨n, h7⟩;simp only at this;simp;omega
  ·rw [zid h7, List.length_cons, ih (n / 128) (by rw [Nat.pow_succ] at h; omega) (by omega)];have hs := Lib.bitLen_shift 7 n (by omega) hn;have hp := zzq (n := n / 128) (by omega);have e : n / 2 ^ 7 = n / 128 := rfl;rw [hs, e];omega
def zmw (n i : Nat) (last : Bool) : UInt8 := if last then UInt8.ofNat (n / 128 ^ i % 128) else UInt8.ofNat (n / 128 ^ i % 128 + 128)
theorem yhp (i : Nat) : ∀ n : Nat, i < (vput n).length → (vput n)[i]? = some (zmw n i (decide ((vput n).length = i + 1))) := by
 induction i with
 | zero =>
  intro n h;by_cases h7 : n < 128
  ·rw [zec h7];simp [zmw, Nat.mod_eq_of_lt h7]
  ·have hp := zpw (n / 128);rw [zid h7];have : ¬ (vput (n / 128)).length + 1 = 0 + 1 := by omega
   simp only [List.length_cons, List.getElem?_cons_zero, decide_eq_false this, zmw];simp
 | succ i ih =>
  intro n h;by_cases h7 : n < 128
  ·rw [zec h7] at h; simp at h
  ·rw [zid h7] at h ⊢;simp only [List.length_cons] at h;simp only [List.getElem?_cons_succ, List.length_cons];rw [ih (n / 128) (by omega)];have e : n / 128 / 128 ^ i = n / 128 ^ (i + 1) := by rw [Nat.div_div_eq_div_mul, Nat.pow_succ, Nat.mul_comm]
   have e2 : decide ((vput (n / 128)).length = i + 1) = decide ((vput (n / 128)).length + 1 = i + 1 + 1) := by rw [decide_eq_decide]; omega
   unfold zmw;rw [e, e2]
def zku (n i : Nat) : List UInt8 := (vput n).take i ++ List.replicate ((vput n).length - i) 0
theorem zzy (n : Nat) : zku n 0 = List.replicate (vput n).length 0 := by simp [zku]
theorem yff (n i : Nat) (h : i ≤ (vput n).length) : (zku n i).length = (vput n).length := by simp [zku]; omega
theorem ybv (n : Nat) : zku n (vput n).length = vput n := by simp [zku]
theorem yas (n i : Nat) (h : i < (vput n).length) : (zku n i).set i (zmw n i (decide ((vput n).length = i + 1))) = zku n (i + 1) := by
 apply List.ext_getElem?;intro j;have hl : ((vput n).take i).length = i := by simp; omega
 have hg := yhp i n h;unfold zku;rw [List.getElem?_set];by_cases hij : i = j
 ·subst hij;rw [if_pos rfl, if_pos (by simp; omega), List.getElem?_append_left (by simp; omega), List.getElem?_take, if_pos (by omega), hg]
 ·rw [if_neg hij];by_cases hj : j < i
  ·rw [List.getElem?_append_left (by simp; omega), List.getElem?_append_left (by simp; omega), List.getElem?_take, List.getElem?_take, if_pos hj, if_pos (by omega)]
  ·rw [List.getElem?_append_right (by simp; omega), List.getElem?_append_right (by simp; omega)];simp only [List.getElem?_replicate, List.length_take];by_cases hje : j < (vput n).length
   ·rw [if_pos (by omega), if_pos (by omega)]
   ·rw [if_neg (by omega), if_neg (by omega)]
end Go.Proofs.YtkejlnjnoiidnaaGreatDoor
end

section
namespace Go.Proofs.YtkejlnjnoiidnaaGreatDoor
open Go.RowKit
theorem zxs (k : Nat) (w : World) (hk : k ≤ 9) :
  Calls Tryz.prog 76 #[.int .u64 128, .int .i64 (k : Int)] w fun e w' => e = .returned (.int .u64 ((128 ^ k : Nat) : Int)) ∧ w = w' := by
 go_enter Tryz.func76, Tryz.ntmps76;go_wp2;go_loop [5, 7] (fun v i => ∃ j : Nat, j ≤ k ∧ i = .int .i64 j ∧ v = .int .u64 ((128 ^ j : Nat) : Int)) (fun _ i => k - (intOf i).toNat)
 case atStart => exact ⟨0, by omega, rfl, rfl⟩
 case round =>
  obtain ⟨j, hj, rfl, rfl⟩ := hrel;by_cases hlt : j < k
  ·have hp := zmx (k := j) (by omega);have hq := zmx (k := j + 1) (by omega);have hs := Lib.hid (Nat.pow_succ (n := 128) (m := j));obtain ⟨x, hx⟩ : ∃ x, x = 128 ^ j := ⟨_, rfl⟩;have HX := Lib.hid hx;rw [← hx] at hp ⊢;clear hx;go_wp2;go_round
   case rel =>
    refine ⟨j + 1, by omega, by go_num, valI ?_⟩;have := hs.out;rw [← HX.out] at this;rw [this];rw [IntKind.wrap_u64];omega
   case measure => simp [intOf]; omega
  ·obtain rfl : j = k := by omega
   go_wp2;go_ret;exact ⟨rfl, rfl⟩
set_option maxHeartbeats 1000000 in
set_option maxRecDepth 100000 in
theorem zbw (n : Nat) (w : World) (hn : n < 18446744073709551616) :
    Calls Tryz.prog 31 #[.int .u64 (n : Int)] w fun e w' => e = .returned (.string ⟨(vput n).toArray⟩) ∧ Below w.heap.size w w' := by
  obtain ⟨i0, hi, hz0, hz1, hz2⟩ := info_parts zqb;have hlen := zae hn;have hpos := zpw n;have hsz := yfl 10 n (by have e : (128 : Nat) ^ 10 = 1180591620717411303424 := (by decide); omega) hn;have hb64 : Lib.bitLen n ≤ 70 := by omega
  go_enter Tryz.func31, Tryz.ntmps31;go_wp2_with fail;refine (Tryz.bits_Len64 (n : Int) w (by omega) (by omega)).mono ?_;rintro e w' ⟨rfl, rfl⟩;simp only [Int.toNat_natCast];have hmx : max 1 (((Lib.bitLen n : Int) + 6) / 7) = ((vput n).length : Int) := by omega
  clear hsz;have hE := Lib.hid (ybv n);have hZ := Lib.hid (zzy n);have hSet := Lib.hid (yas n);have hL := Lib.hid (yff n);obtain ⟨m, hm⟩ : ∃ m, m = (vput n).length := ⟨_, rfl⟩;rw [← hm] at hmx hlen hpos;have HM := Lib.hid hm;clear hm;go_wp2_with fail;obtain ⟨W, hrun, hT, hg⟩ := run_make_full (P := Tryz.prog) w' w'.heap.size 61 5 i0 (.int .u8 0) 1 Tryz.underlying61 hi hz0 hz1 .i64 .i64 m (by rw [hz2]; omega) (by unfold maxLen; omega) (Nat.le_refl _);have hb : Below w'.heap.size w' W := (Below.refl _ _).grown hg (Nat.le_refl _) (fun k hk => by cases hk);have hT0 : W.ownsRow w'.heap.size 5 1 (.slice (some ⟨w'.heap.size, 0, none⟩) m m) m (bytesV (zku n 0)) := by
    have e : (madeCells (Value.int .u8 0).cells (m * 1)).toList = bytesV (zku n 0) := by
      rw [hZ.out, Nat.mul_one, ← HM.out];show (madeCells #[Value.int .u8 0] m).toList = _;rw [toList_madeCells_one];simp [bytesV, zit]
    rw [e] at hT;exact hT
  clear hT;rw [hrun];clear hrun hmx hg;go_wp2;go_loopw [5, 15] (fun _ i wr => ∃ k : Nat, k ≤ m ∧ i = .int .i64 k ∧ wr.ownsRow w'.heap.size 5 1 (.slice (some ⟨w'.heap.size, 0, none⟩) m m) m (bytesV (zku n k)) ∧ Below w'.heap.size w' wr) (fun _ i _ => m - (intOf i).toNat)
  case atStart => exact ⟨0, by omega, rfl, hT0, hb⟩
  case round =>
    clear hT0 hb;obtain ⟨k, hk, rfl, hT, hbel⟩ := hrel;by_cases hlt : k < m
    · have hlp := hL.out k (by rw [← HM.out]; omega);rw [← HM.out] at hlp;have c0 : wr.cell? ⟨w'.heap.size, k, none⟩ = some (zit ((zku n k).getD k 0)) := by
        rw [hT.cellAt k (by omega), List.getElem?_map, List.getElem?_eq_getElem (by omega), getD_at _ _ _ (by omega)]; rfl
      have f0 : wr.frozen? ⟨w'.heap.size, k, none⟩ = false := hT.frozenAt k;have hset := hSet.out k (by rw [← HM.out]; exact hlt);rw [← HM.out] at hset;have HS := Lib.hid hset;have HLP := Lib.hid hlp;clear hset hlp;obtain ⟨q, hq⟩ : ∃ q, q = n / 128 ^ k := ⟨_, rfl⟩;have hqn : q ≤ n := by rw [hq]; exact Nat.div_le_self _ _
      have hw1 : IntKind.u64.wrap ((n : Int) / 128 ^ k) = (q : Int) := by
        have e : ((n / 128 ^ k : Nat) : Int) = (n : Int) / 128 ^ k := by simp
        rw [← e, ← hq, IntKind.wrap_u64]; omega
      have HQ := Lib.hid hq;clear hq;have hnz : ¬ ((128 : Int) ^ k = 0) := Int.pow_ne_zero (by omega);have hnz' : ((128 : Int) ^ k == 0) = false := beq_eq_false_iff_ne.2 hnz;by_cases hlast : k + 1 < m
      · have hb1 : zmw n k (decide (m = k + 1)) = UInt8.ofNat (q % 128 + 128) := by
          rw [decide_eq_false (by omega)];unfold zmw;rw [HQ.out];rfl
        have HB := Lib.hid hb1;clear hb1;go_wp2_with (go_at_call 76; refine (zxs k _ (by omega)).mono ?_; rintro e w2 ⟨rfl, rfl⟩);go_roundw
        case measure => simp [intOf]; omega
        case rel =>
          refine ⟨k + 1, by omega, by go_num, ?_, (hbel.setCell (Nat.le_refl _) _).setCell (Nat.le_refl _) _⟩;have h1 := ((hT.stored k (.int .u8 ((q : Int) % 128))).1.stored k (zit (UInt8.ofNat (q % 128 + 128)))).1;rw [List.set_set, ← List.map_set, ← HB.out, HS.out] at h1;have e2 : zit (zmw n k (decide (m = k + 1))) = Value.int .u8 ((q : Int) % 128 + 128) := by
            rw [HB.out];exact valI (by simp; omega)
          rw [e2] at h1;exact h1
      · have hb1 : zmw n k (decide (m = k + 1)) = UInt8.ofNat (q % 128) := by
          rw [decide_eq_true (by omega)];unfold zmw;rw [HQ.out];rfl
        have HB := Lib.hid hb1;clear hb1;go_wp2_with (go_at_call 76; refine (zxs k _ (by omega)).mono ?_; rintro e w2 ⟨rfl, rfl⟩);go_roundw
        case measure => simp [intOf]; omega
        case rel =>
          refine ⟨k + 1, by omega, by go_num, ?_, hbel.setCell (Nat.le_refl _) _⟩;have h1 := (hT.stored k (zit (UInt8.ofNat (q % 128)))).1;rw [← List.map_set, ← HB.out, HS.out] at h1;have e2 : zit (zmw n k (decide (m = k + 1))) = Value.int .u8 ((q : Int) % 128) := by
            rw [HB.out];exact valI (by simp; omega)
          rw [e2] at h1;exact h1
    · obtain rfl : k = m := by omega
      rw [HM.out, hE.out, ← HM.out] at hT;have hs1 := zoh (P := Tryz.prog) 61 5 9 Tryz.underlying61 Tryz.underlying5 Tryz.underlying9 hT HM.out.symm hpos;go_wp2;go_ret;exact ⟨rfl, hbel⟩
end Go.Proofs.YtkejlnjnoiidnaaGreatDoor
end

section
namespace Go.Proofs.YtkejlnjnoiidnaaGreatDoor
open Go.RowKit As
theorem yeo (s : ByteArray) (k : Nat) (h : k < s.size) : s.data.toList[k]'(by simpa using h) = s[k] := rfl
theorem ygo (b : UInt8) : IntKind.u64.wrap (b.toNat : Int) = (b.toNat : Int) := by
 have := b.toNat_lt;rw [IntKind.wrap_u64]; omega
theorem vor {a b k : Nat} (ha : a < 2 ^ (7 * k)) (hb : b < 256) (hf : a + b % 128 * 2 ^ (7 * k) < 18446744073709551616) :
  bits BinOp.or IntKind.u64 (a : Int) (IntKind.u64.wrap (bits BinOp.and IntKind.u64 (b : Int) 127 * 2 ^ (7 * k))) = ((a + b % 128 * 2 ^ (7 * k) : Nat) : Int) := by
 have e1 : bits BinOp.and IntKind.u64 (b : Int) 127 = ((b % 128 : Nat) : Int) := by
  have e := u64_and_nat b 127 (by omega) (by omega);rw [nat_mask7] at e;exact e
 have hp : b % 128 * 2 ^ (7 * k) < 18446744073709551616 := by omega
 have e2 : ((b % 128 : Nat) : Int) * 2 ^ (7 * k) = ((b % 128 * 2 ^ (7 * k) : Nat) : Int) := by simp
 rw [e1, e2, IntKind.wrap_u64, Int.emod_eq_of_lt (by omega) (by omega), u64_or_nat a _ (by omega) hp, Nat.or_comm, nat_join (7 * k) _ _ (Nat.mul_mod_left _ _) ha, Nat.add_comm]
theorem ymk (s : ByteArray) (k : Nat) (h : k < s.size) (h9 : k ≤ 9) (hb : ¬ (k = 9 ∧ 1 < s[k].toNat)) :
  bits BinOp.or IntKind.u64 (vval (s.data.toList.take k) : Int) (IntKind.u64.wrap (bits BinOp.and IntKind.u64 (s[k].toNat : Int) 127 * 2 ^ (7 * k))) = (vval (s.data.toList.take (k + 1)) : Int) := by
 have hl : k < s.data.toList.length := by simpa using h
 have hn := ztk hl;have hfit := zml hl h9 (by rw [yeo s k h]; exact hb);rw [yeo s k h] at hn;rw [hn] at hfit;rw [hn, ybp];rw [ybp] at hfit;have hlt := zhj s.data.toList k (by omega);rw [ybp] at hlt;exact vor hlt s[k].toNat_lt hfit
theorem yan {n n' k k' : Int} {v v' : Value} {t t' : IntKind} (h1 : n = n') (h2 : k = k') (h3 : v = v') : Ending.returned (.tuple #[.int t n, .int t' k, v]) = .returned (.tuple #[.int t n', .int t' k', v']) := by rw [h1, h2, h3]
set_option maxHeartbeats 1000000 in
set_option maxRecDepth 100000 in
theorem zhx (s : ByteArray) (w : World) (hs : s.size ≤ maxLen) :
  Calls Tryz.prog 113 #[.string s] w fun e w' => e = .returned (.tuple #[.int .u64 ((vget s.data.toList).1 : Int), .int .i64 ((vget s.data.toList).2.1 : Int), errV (vget s.data.toList).2.2]) ∧ w = w' := by
 unfold maxLen at hs;go_enter Tryz.func113, Tryz.ntmps113;go_wp2;go_loop [5, 6, 7, 10] (fun n _ _ i => ∃ k : Nat, k ≤ s.size ∧ i = .int .i64 k ∧ n = .int .u64 (vval (s.data.toList.take k) : Int) ∧ VG s.data.toList k) (fun _ _ _ i => s.size - (intOf i).toNat)
 case atStart => exact ⟨0, by omega, rfl, rfl, VG.zero _⟩
 case round =>
  obtain ⟨k, hk, rfl, rfl, hvg⟩ := hrel;have HV := Lib.hid hvg;have h9 := hvg.2.1;clear hvg;by_cases hlt : k < s.size
  ·have hlt' : k < s.data.toList.length := by simpa using hlt
   have hsb := Lib.hid (yeo s k hlt);have hb256 := s[k].toNat_lt;have hw := ygo s[k];by_cases c1 : k = 9 ∧ 1 < s[k].toNat
   ·have hres := Lib.hid (HV.out.limit hlt' c1.1 (by rw [hsb.out]; exact c1.2));have d1 : ((k : Int) == 9) = true := by simp; omega
    have d2 : decide (1 < (s[k].toNat : Int)) = true := by simp; omega
    clear c1;go_wp2;go_ret3;exact ⟨by rw [hres.out]; rfl, rfl⟩
   ·have hvor := Lib.hid (ymk s k hlt h9 c1);by_cases c2 : s[k].toNat = 0 ∧ 0 < k
    ·have hres := Lib.hid (HV.out.form hlt' c2.2 (by rw [hsb.out]; exact c2.1));have d1 : decide (1 < (s[k].toNat : Int)) = false := by simp; omega
     have d2 : decide ((s[k].toNat : Int) < 128) = true := by simp; omega
     have d3 : ((s[k].toNat : Int) == 0) = true := by simp; omega
     have d4 : decide (0 < k) = true := by simp; omega
     clear c1 c2;by_cases e9 : k = 9
     ·have d5 : ((k : Int) == 9) = true := by simp; omega
      clear e9;go_wp2;go_ret3;exact ⟨by rw [hres.out]; rfl, rfl⟩
     ·have d5 : ((k : Int) == 9) = false := by simp; omega
      clear e9;go_wp2;go_ret3;exact ⟨by rw [hres.out]; rfl, rfl⟩
    ·by_cases c3 : s[k].toNat < 128
     ·have hres := Lib.hid (HV.out.done hlt' (by rw [hsb.out]; exact c1) (by rw [hsb.out]; exact c3) (by rw [hsb.out]; exact c2));have d2 : decide ((s[k].toNat : Int) < 128) = true := by simp; omega
      by_cases e0 : s[k].toNat = 0
      ·have d3 : ((s[k].toNat : Int) == 0) = true := by simp; omega
       have d4 : decide (0 < k) = false := by simp; omega
       have d5 : ((k : Int) == 9) = false := by simp; omega
       clear c1 c2 c3 e0;go_wp2;go_ret3;exact ⟨by rw [hres.out]; exact yan hvor.out (by go_num) rfl, rfl⟩
      ·have d3 : ((s[k].toNat : Int) == 0) = false := by simp; omega
       by_cases e9 : k = 9
       ·have d5 : ((k : Int) == 9) = true := by simp; omega
        have d1 : decide (1 < (s[k].toNat : Int)) = false := by simp; omega
        clear c1 c2 c3 e0 e9;go_wp2;go_ret3;exact ⟨by rw [hres.out]; exact yan hvor.out (by go_num) rfl, rfl⟩
       ·have d5 : ((k : Int) == 9) = false := by simp; omega
        clear c1 c2 c3 e0 e9;go_wp2;go_ret3;exact ⟨by rw [hres.out]; exact yan hvor.out (by go_num) rfl, rfl⟩
     ·have hnext := Lib.hid (HV.out.succ hlt' (by rw [hsb.out]; exact c1) (by rw [hsb.out]; exact c3));have d2 : decide ((s[k].toNat : Int) < 128) = false := by simp; omega
      have d5 : ((k : Int) == 9) = false := by simp; omega
      clear c1 c2 c3;go_wp2;go_round
      case rel => exact ⟨k + 1, by omega, by go_num, valI hvor.out, hnext.out⟩
      case measure => simp [intOf]; omega
  ·obtain rfl : k = s.size := by omega
   have hres := Lib.hid (HV.out.out (by simp));clear hlt;go_wp2;go_ret3;exact ⟨by rw [hres.out]; rfl, rfl⟩
set_option maxHeartbeats 1000000 in
set_option maxRecDepth 100000 in
theorem zcq (s : ByteArray) (w : World) (hs : s.size ≤ maxLen) :
  Calls Tryz.prog 100 #[.string s] w fun e w' => e = .returned (.tuple #[.int .u64 ((vget s.data.toList).1 : Int), .int .i64 ((vget s.data.toList).2.1 : Int), .int .i64 (vget s.data.toList).2.2]) ∧ w = w' := by
 unfold maxLen at hs;go_enter Tryz.func100, Tryz.ntmps100;go_wp2;go_loop [5] (fun i => ∃ k : Nat, k ≤ s.size ∧ i = .int .i64 k ∧ VG s.data.toList k) (fun i => s.size - (intOf i).toNat)
 case atStart => exact ⟨0, by omega, rfl, VG.zero _⟩
 case round =>
  obtain ⟨k, hk, rfl, hvg⟩ := hrel;have HV := Lib.hid hvg;have h9 := hvg.2.1;clear hvg;by_cases hlt : k < s.size
  ·have hlt' : k < s.data.toList.length := by simpa using hlt
   have hsb := Lib.hid (yeo s k hlt);have hb256 := s[k].toNat_lt;have d0 : ((k : Int) == (s.size : Int)) = false := by simp; omega
   by_cases c1 : k = 9 ∧ 1 < s[k].toNat
   ·have hres := Lib.hid (HV.out.limit hlt' c1.1 (by rw [hsb.out]; exact c1.2));have d1 : ((k : Int) == 9) = true := by simp; omega
    have d2 : decide (1 < (s[k].toNat : Int)) = true := by simp; omega
    clear c1;go_wp2;go_ret3;exact ⟨by rw [hres.out]; rfl, rfl⟩
   ·by_cases c2 : s[k].toNat = 0 ∧ 0 < k
    ·have hres := Lib.hid (HV.out.form hlt' c2.2 (by rw [hsb.out]; exact c2.1));have d1 : decide (1 < (s[k].toNat : Int)) = false := by simp; omega
     have d3 : ((s[k].toNat : Int) == 0) = true := by simp; omega
     have d4 : decide (0 < k) = true := by simp; omega
     clear c1 c2;by_cases e9 : k = 9
     ·have d5 : ((k : Int) == 9) = true := by simp; omega
      clear e9;go_wp2;go_ret3;exact ⟨by rw [hres.out]; rfl, rfl⟩
     ·have d5 : ((k : Int) == 9) = false := by simp; omega
      clear e9;go_wp2;go_ret3;exact ⟨by rw [hres.out]; rfl, rfl⟩
    ·have hC1 := Lib.hid c1;by_cases c3 : s[k].toNat < 128
     ·have hres := Lib.hid (HV.out.done hlt' (by rw [hsb.out]; exact c1) (by rw [hsb.out]; exact c3) (by rw [hsb.out]; exact c2));have hfit := zml hlt' h9 (by rw [hsb.out]; exact c1);have d2 : decide ((s[k].toNat : Int) < 128) = true := by simp; omega
      have hd : (((s[k].toNat : Int) == 0) = true ∧ decide (0 < k) = false ∧ ((k : Int) == 9) = false) ∨ (((s[k].toNat : Int) == 0) = false ∧ ((k : Int) == 9) = true ∧ decide (1 < (s[k].toNat : Int)) = false) ∨ (((s[k].toNat : Int) == 0) = false ∧ ((k : Int) == 9) = false) := by
       simp only [beq_iff_eq, beq_eq_false_iff_ne, decide_eq_false_iff_not];omega
      clear c1 c2 c3;rcases hd with ⟨d3, d4, d5⟩ | ⟨d3, d5, d6⟩ | ⟨d3, d5⟩
      all_goals
       go_wp2;go_loop [6, 7] (fun n j => ∃ m : Nat, m ≤ k + 1 ∧ j = .int .i64 ((m : Int) - 1) ∧ n = .int .u64 (zpu s.data.toList (k + 1) m : Int)) (fun _ j => (intOf j + 1).toNat)
       case atStart => exact ⟨k + 1, by omega, by go_num, by rw [yda]; rfl⟩
       case round =>
        obtain ⟨m, hm, rfl, rfl⟩ := hrel;cases m with
        | zero =>
         have ej : (((0 : Nat) : Int) - 1) = -1 := by omega
         rw [ej];clear ej;go_wp2;go_ret3;exact ⟨by rw [hres.out]; exact yan rfl (by go_num) rfl, rfl⟩
        | succ m =>
         have ej : (((m + 1 : Nat) : Int) - 1) = (m : Int) := by omega
         rw [ej];clear ej;have hms : m < s.size := by omega
         have hn := zzl (l := s.data.toList) (i := k + 1) (k := m) (by omega) (by omega);rw [yeo s m hms] at hn;have hle := ygf s.data.toList (k + 1) m;have hbm := s[m].toNat_lt;have hN := Lib.hid hn;have hV : zpu s.data.toList (k + 1) m < 18446744073709551616 := by omega
         clear hn;go_wp2;go_round
         case rel =>
          refine ⟨m, by omega, rfl, valI ?_⟩;have hn := hN.out;simp only [IntKind.wrap_u64];omega
         case measure => simp [intOf]
     ·have hnext := Lib.hid (HV.out.succ hlt' (by rw [hsb.out]; exact c1) (by rw [hsb.out]; exact c3));have d2 : decide ((s[k].toNat : Int) < 128) = false := by simp; omega
      have d3 : ((s[k].toNat : Int) == 0) = false := by simp; omega
      have d5 : ((k : Int) == 9) = false := by simp; omega
      clear c1 c2 c3;go_wp2;go_round
      case rel => exact ⟨k + 1, by omega, by go_num, hnext.out⟩
      case measure => simp [intOf]; omega
  ·obtain rfl : k = s.size := by omega
   have hres := Lib.hid (HV.out.out (by simp));clear hlt;go_wp2;go_ret3;exact ⟨by rw [hres.out]; rfl, rfl⟩
theorem zsb {n : Nat} (h : n < 9223372036854775808) : IntKind.i64.wrap (n : Int) = (n : Int) := IntWalk.i64_in _ (by omega)
set_option maxHeartbeats 1000000 in
set_option maxRecDepth 100000 in
theorem zdn (s : ByteArray) (most : Int) (w : World) (hs : s.size ≤ maxLen) (hm : most ≤ 9223372036854775807) :
  Calls Tryz.prog 66 #[.string s, .int .i64 most] w fun e w' => e = .returned (.tuple #[.int .i64 ((vint s.data.toList most).1 : Int), .int .i64 ((vint s.data.toList most).2.1 : Int), errV (vint s.data.toList most).2.2]) ∧ w = w' := by
 have H := Lib.hid (show vint s.data.toList most = _ from rfl);unfold vint at H;obtain ⟨x, hx⟩ : ∃ x, x = vint s.data.toList most := ⟨_, rfl⟩;obtain ⟨g, hg⟩ : ∃ g, g = vget s.data.toList := ⟨_, rfl⟩;have hX : x = if g.2.2 ≠ 0 then (0, 0, g.2.2) else if most < 0 ∨ most < (g.1 : Int) then (0, 0, 2) else g := by rw [hx, hg]; rfl
 have hsay := zdw s.data.toList;rw [← hg] at hsay;have HG := Lib.hid hg;rw [← hx];clear hx hg H;obtain ⟨n, k, e⟩ := g;simp only at hX hsay;by_cases he : e = 0
 ·subst he;have hn : n < 18446744073709551616 := by
   rcases hsay with h | h | h | h
   ·exact h.2.1
   all_goals (injection h with h _; omega)
  clear hsay;rw [if_neg (by simp)] at hX;by_cases h1 : most < 0
  ·rw [if_pos (.inl h1)] at hX;subst hX;go_enter Tryz.func66, Tryz.ntmps66;go_wp2_with fail;refine (zhx s w hs).mono ?_;rintro e w' ⟨rfl, rfl⟩;rw [← HG.out];simp only [zak];go_wp2;go_ret3;exact ⟨rfl, rfl⟩
  ·have hw : IntKind.u64.wrap most = most := by rw [IntKind.wrap_u64]; omega
   by_cases h2 : most < (n : Int)
   ·rw [if_pos (.inr h2)] at hX;subst hX;go_enter Tryz.func66, Tryz.ntmps66;go_wp2_with fail;refine (zhx s w hs).mono ?_;rintro e w' ⟨rfl, rfl⟩;rw [← HG.out];simp only [zak];go_wp2;go_ret3;exact ⟨rfl, rfl⟩
   ·rw [if_neg (by omega)] at hX;subst hX;have hi : IntKind.i64.wrap (n : Int) = (n : Int) := zsb (by omega);go_enter Tryz.func66, Tryz.ntmps66;go_wp2_with fail;refine (zhx s w hs).mono ?_;rintro e w' ⟨rfl, rfl⟩;rw [← HG.out];simp only [zak];go_wp2;go_ret3;exact ⟨rfl, rfl⟩
 ·rw [if_pos he] at hX;subst hX;have hv := Lib.hid (zau he);go_enter Tryz.func66, Tryz.ntmps66;go_wp2_with fail;refine (zhx s w hs).mono ?_;rintro e w' ⟨rfl, rfl⟩;rw [← HG.out];simp only [hv.out];go_wp2;go_ret3;exact ⟨yan rfl rfl hv.out.symm, rfl⟩
set_option maxHeartbeats 1000000 in
set_option maxRecDepth 100000 in
theorem zjt (s : ByteArray) (most : Int) (w : World) (hs : s.size ≤ maxLen) (hm : most ≤ 9223372036854775807) :
  Calls Tryz.prog 64 #[.string s, .int .i64 most] w fun e w' => e = .returned (.tuple #[.int .i64 ((vint s.data.toList most).1 : Int), .int .i64 ((vint s.data.toList most).2.1 : Int), .int .i64 (vint s.data.toList most).2.2]) ∧ w = w' := by
 have H := Lib.hid (show vint s.data.toList most = _ from rfl);unfold vint at H;obtain ⟨x, hx⟩ : ∃ x, x = vint s.data.toList most := ⟨_, rfl⟩;obtain ⟨g, hg⟩ : ∃ g, g = vget s.data.toList := ⟨_, rfl⟩;have hX : x = if g.2.2 ≠ 0 then (0, 0, g.2.2) else if most < 0 ∨ most < (g.1 : Int) then (0, 0, 2) else g := by rw [hx, hg]; rfl
 have hsay := zdw s.data.toList;rw [← hg] at hsay;have HG := Lib.hid hg;rw [← hx];clear hx hg H;obtain ⟨n, k, e⟩ := g;simp only at hX hsay;by_cases he : e = 0
 ·subst he;have hn : n < 18446744073709551616 := by
   rcases hsay with h | h | h | h
   ·exact h.2.1
   all_goals (injection h with h _; omega)
  clear hsay;rw [if_neg (by simp)] at hX;by_cases h1 : most < 0
  ·rw [if_pos (.inl h1)] at hX;subst hX;go_enter Tryz.func64, Tryz.ntmps64;go_wp2_with fail;refine (zcq s w hs).mono ?_;rintro e w' ⟨rfl, rfl⟩;rw [← HG.out];go_wp2;go_ret3;exact ⟨rfl, rfl⟩
  ·have hw : IntKind.u64.wrap most = most := by rw [IntKind.wrap_u64]; omega
   by_cases h2 : most < (n : Int)
   ·rw [if_pos (.inr h2)] at hX;subst hX;go_enter Tryz.func64, Tryz.ntmps64;go_wp2_with fail;refine (zcq s w hs).mono ?_;rintro e w' ⟨rfl, rfl⟩;rw [← HG.out];go_wp2;go_ret3;exact ⟨rfl, rfl⟩
   ·rw [if_neg (by omega)] at hX;subst hX;have hi : IntKind.i64.wrap (n : Int) = (n : Int) := zsb (by omega);go_enter Tryz.func64, Tryz.ntmps64;go_wp2_with fail;refine (zcq s w hs).mono ?_;rintro e w' ⟨rfl, rfl⟩;rw [← HG.out];go_wp2;go_ret3;exact ⟨rfl, rfl⟩
 ·rw [if_pos he] at hX;subst hX;have hne : (e != 0) = true := by rw [bne_iff_ne]; exact he
  go_enter Tryz.func64, Tryz.ntmps64;go_wp2_with fail;refine (zcq s w hs).mono ?_;rintro e w' ⟨rfl, rfl⟩;rw [← HG.out];go_wp2;go_ret3;exact ⟨rfl, rfl⟩
end Go.Proofs.YtkejlnjnoiidnaaGreatDoor
end
