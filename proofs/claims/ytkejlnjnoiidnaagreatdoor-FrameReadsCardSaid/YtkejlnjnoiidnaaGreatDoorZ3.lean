/- match.Text makes what ttext says.

Plain facts on the sum of a text: a table-free sum byte by byte is the sum bit by bit. No program in sight.

A text with its sum behind, and without, in plain Lean. No program in sight.

lz.Write says what twrite says.

TokensRight of the reference says what tright says.

(Fault).Is of the reference.

Text of the reference makes what ttext says.

How many bytes a number needs, and which they are, in plain Lean. No program in sight. -/
import Derived.Test.YtkejlnjnoiidnaaGreatDoorZ2
import Derived.Test.YtkejlnjnoiidnaaGreatDoorZ1
import Derived.Lib.AppendStr
import Derived.Deep.RegionWith
import Derived.Lib.BitFns
section
namespace Go.Proofs.YtkejlnjnoiidnaaGreatDoor
open Go.RowKit As
theorem strCells_bytes (s : ByteArray) : Lib.strCells s = bytesV s.data.toList := rfl
theorem size_len (s : ByteArray) : s.data.toList.length = s.size := by simp
theorem own_some' {w : World} {B : Nat} {e : TypeId} {size : Nat} {v : Value} {n : Nat} {xs : List Value} (h : w.ownsRow B e size v n xs) (hn : 0 < n) : ∃ g c, v = .slice (some ⟨g, 0, none⟩) n c ∧ B ≤ g ∧ g < w.heap.size := by
 rcases h.2 with ⟨_, h0⟩ | ⟨g, cap, cur, hv, hb, hh, _⟩
 ·omega
 ·exact ⟨g, cap, hv, hb, (Array.getElem?_eq_some_iff.1 hh).1⟩
/-- The text so far, ahead of token k. -/
def tsofar (l : List Tok) (k : Nat) : List UInt8 := (l.take k).foldl tstep []
theorem tsofar_succ {l : List Tok} {k : Nat} {t : Tok} (h : l[k]? = some t) : tsofar l (k + 1) = tstep (tsofar l k) t := by
 obtain ⟨hk, e⟩ := List.getElem?_eq_some_iff.1 h
 unfold tsofar
 rw [List.take_succ_eq_append_getElem hk, e, List.foldl_append]; rfl
theorem tok_own {l : List Tok} {k n : Nat} {t : Tok} (h : TOk (l.drop k) n) (hx : l[k]? = some t) (h1 : t.1.size ≠ 0) : t.2.1 = 0 ∧ t.2.2 = 0 ∧ n + t.1.size ≤ 20000 ∧ TOk (l.drop (k + 1)) (n + t.1.size) := by
 rw [tdrop hx] at h
 rcases h with ⟨_, a, b, c, d⟩ | ⟨a, _⟩
 ·exact ⟨a, b, c, d⟩
 ·exact absurd a h1
theorem tok_rep {l : List Tok} {k n : Nat} {t : Tok} (h : TOk (l.drop k) n) (hx : l[k]? = some t) (h1 : t.1.size = 0) : 4 ≤ t.2.2 ∧ t.2.2 ≤ 67 ∧ 1 ≤ t.2.1 ∧ t.2.1 ≤ (n : Int) ∧ n + t.2.2.toNat ≤ 20000 ∧ TOk (l.drop (k + 1)) (n + t.2.2.toNat) := by
 rw [tdrop hx] at h
 rcases h with ⟨a, _⟩ | ⟨_, a, b, c, _, d, e, f⟩
 ·exact absurd h1 a
 ·exact ⟨a, b, c, d, e, f⟩
theorem TOk.le {l : List Tok} {n : Nat} (h : TOk l n) : n ≤ 20000 := by
 cases l with
 | nil => exact h
 | cons t l => rcases h with ⟨_, _, _, a, _⟩ | ⟨_, _, _, _, _, _, a, _⟩ <;> omega
theorem own_len {w : World} {base : Nat} {E : TypeId} {v : Value} {n m : Nat} {l l' : List UInt8} (h : w.ownsRow base E 1 v n (bytesV l)) (hn : n = m) (hl : l = l') : w.ownsRow base E 1 v m (bytesV l') := by subst hn hl; exact h
theorem bytesV_app (a b : List UInt8) : bytesV a ++ bytesV b = bytesV (a ++ b) := by simp [bytesV]
theorem blk_new (w : World) (o : Obj) : (w.alloc o).heap[w.heap.size]? = some o := by simp only [World.alloc, Array.getElem?_push_size]
theorem blk_lt {w : World} {B : Nat} {o : Obj} (h : w.heap[B]? = some o) : B < w.heap.size := (Array.getElem?_eq_some_iff.1 h).1
theorem blk_below {w w' : World} {B : Nat} {o : Obj} (h : w.heap[B]? = some o) (hb : Below w.heap.size w w') : w'.heap[B]? = some o := (hb.block B (blk_lt h)).trans h
theorem blk_kept {w w' : World} {B base : Nat} {cs : Array Value} {t e : TypeId} {fz : Nat × Nat} {size n : Nat} {v : Value} {xs : List Value} (h : w.heap[B]? = some (.cells cs t fz)) (hT : w.ownsRow base e size v n xs) (hne : t ≠ e) (hg : w.grownBy w' v.ownBlock) : w'.heap[B]? = some (.cells cs t fz) := by
 refine (hg.block B (blk_lt h) fun e0 => ?_).trans h
 rcases hT.2 with ⟨rfl, _⟩ | ⟨g, cap, cur, rfl, _, hh, _⟩
 ·simp [Value.ownBlock] at e0
 ·simp only [Value.ownBlock, Option.some.injEq] at e0
  subst e0
  rw [hh] at h
  injection h with h
  injection h with _ h2
  exact hne h2.symm
theorem blk_cell {w : World} {B j : Nat} {cs : Array Value} {t : TypeId} {fz : Nat × Nat} {u : Value} (h : w.heap[B]? = some (.cells cs t fz)) (hu : cs[j]? = some u) : w.cell? ⟨B, j, none⟩ = some u := by
 simp only [World.cell?, h]; exact hu
theorem string_ownV {P : Program} {w : World} {base : Nat} {E : TypeId} {v : Value} {l : List UInt8} (src e dst : TypeId) (hs : P.underlying src = some (.slice e)) (he : P.underlying e = some (.int .u8)) (hd : P.underlying dst = some .string)
  (h : w.ownsRow base E 1 v l.length (bytesV l)) : (convert src dst v).run P w = .ok (.string ⟨l.toArray⟩) w := by
 rcases h.2 with ⟨rfl, h0⟩ | ⟨g, cap, cur, rfl, _, hh, _⟩
 ·obtain rfl : l = [] := List.length_eq_zero_iff.1 h0
  exact run_convert_bytes_nil w src e hs he 0 0 dst hd
 ·refine string_of w src e dst g cap l hs he hd fun i hi => ⟨?_, h.frozenAt i⟩
  rw [h.cellAt i (by omega), List.getElem?_map, List.getElem?_eq_getElem hi, getD_at l 0 i hi]
  rfl
set_option maxHeartbeats 2000000 in
set_option maxRecDepth 100000 in
theorem text_any (w : World) (n c : Nat) (A : Option Addr) (l : List Tok) (hl : Toks w w.heap.size A n l) (hn : n ≤ maxLen) :
  Calls Tryz.prog 115 #[.slice A n c] w fun e w' => ∃ v, e = .returned (.tuple #[.string (textOf l).1, v]) ∧ ErrOf w' v (textOf l).2 ∧ Below w.heap.size w w' := by
 obtain ⟨i0, hi, hz0, hz1, hz2⟩ := info_parts byteInfo
 have hlen := Lib.hid hl.len
 by_cases hbad : (tright l).1 ≠ 0
 ·have HB := Lib.hid hbad
  clear hbad
  go_enter Tryz.func115, Tryz.ntmps115
  go_wp2_with fail
  refine (tright_any w n c A l hl hn).mono ?_
  rintro e w1 ⟨v, rfl, hv, hb⟩
  unfold ErrOf at hv
  have hR := Lib.hid (text_bad HB.out)
  have hbad := HB.out
  generalize hF : tright l = f at *
  obtain ⟨e1, p1⟩ := f
  simp only at hv hbad
  have HV := Lib.hid hv
  clear hF
  cases hv with
  | none => exact absurd rfl hbad
  | bare _ he =>
   clear hbad he
   go_wp2
   go_ret2
   rw [hR.out]
   exact ⟨_, rfl, HV.out, hb⟩
  | at_ b o _ _ he h0 h1 =>
   clear hbad he h0 h1
   go_wp2
   go_ret2
   rw [hR.out]
   exact ⟨_, rfl, HV.out, hb⟩
 ·have h0 : (tright l).1 = 0 := by omega
  have hok := Lib.hid (tright_ok h0)
  have hpl := tright_place h0
  have hR := Lib.hid (text_good h0)
  have hP := Lib.hid hpl
  clear hbad h0 hpl
  unfold maxLen at hn
  go_enter Tryz.func115, Tryz.ntmps115
  go_wp2_with fail
  refine (tright_any w n c A l hl hn).mono ?_
  rintro e w1 ⟨v, rfl, hv, hb⟩
  rw [hP.out] at hv
  obtain ⟨rfl, _⟩ := ErrIs.zero hv
  have hl1 := hl.grow hb
  clear hv
  go_wp2
  go_loopw [5, 7, 15] (fun v _ i wr => ∃ k : Nat, k ≤ n ∧ i = .int .i64 k ∧ TOk (l.drop k) (tsofar l k).length ∧ wr.ownsRow w1.heap.size 5 1 v (tsofar l k).length (bytesV (tsofar l k)) ∧ Below w1.heap.size w1 wr) (fun _ _ i _ => n - (intOf i).toNat)
  case atStart => exact ⟨0, by omega, rfl, hok.out, World.ownsRow_nil _ _ _ _, Below.refl _ _⟩
  case round =>
   obtain ⟨k, hk, rfl, hto, hT, hbel⟩ := hrel
   have hB := hbel.size
   by_cases hlt : k < n
   ·obtain ⟨b, o, s, r, t, rfl, hb', hx, hf, c0, c1, c2⟩ := hl1.at_ hlt
    have c0 := (hbel.cell (p := ⟨b, o + k * 3, none⟩) (by simp; omega)).trans c0
    have c1 := (hbel.cell (p := ⟨b, o + k * 3 + 1, none⟩) (by simp; omega)).trans c1
    have c2 := (hbel.cell (p := ⟨b, o + k * 3 + 2, none⟩) (by simp; omega)).trans c2
    have hsf := Lib.hid (tsofar_succ hx)
    by_cases h1 : s.size = 0
    ·obtain ⟨q0, q1, q2, q3, q4, q5⟩ := tok_rep hto hx h1
     simp only at q0 q1 q2 q3 q4 q5
     have hst := Lib.hid (show tsofar l (k + 1) = rep (tsofar l k) r.toNat t.toNat by rw [hsf.out]; unfold tstep; rw [if_neg (by simpa using h1)])
     obtain ⟨z, rfl⟩ := Int.eq_ofNat_of_zero_le (show 0 ≤ t by omega)
     obtain ⟨y, rfl⟩ := Int.eq_ofNat_of_zero_le (show 0 ≤ r by omega)
     rw [Int.toNat_natCast, Int.toNat_natCast] at hst
     rw [Int.toNat_natCast] at q4 q5
     have Q5 := Lib.hid q5
     have X := Lib.hid hx
     have hs0 : s = ⟨#[]⟩ := by
      apply ByteArray.ext
      apply Array.eq_empty_of_size_eq_zero
      simpa using h1
     subst hs0
     have hlr := Lib.hid (rep_len (tsofar l k) y)
     have z0 : (⟨#[]⟩ : ByteArray).size = 0 := rfl
     clear hto hx hf h1 q5 hsf
     generalize hacc : tsofar l k = acc at *
     have HA := Lib.hid hacc
     clear hacc
     go_wp2_with (first
      | (at_builtin; refine Lib.wpList_append_own_string _ rfl (.tmp 19) (.tmp 21) 61 9 rfl w1.heap.size 5 i0 Tryz.underlying61 Tryz.underlying9 hi hz0 hz1 hz2 u5 acc.length (bytesV acc) rfl (hT.alloc _) ⟨#[]⟩ rfl (by unfold maxLen; omega) (by omega) (by simp; omega) ?_; intro v1 w2 hT1 hg1 _; have hb1 := grown_own (hbel.alloc hB _) hg1 (by simp; omega) (hT.alloc _); have hk1 := blk_kept (blk_new wr _) (hT.alloc _) (by decide) hg1; have d1 := blk_cell (j := 1) hk1 rfl; have d2 := blk_cell (j := 2) hk1 rfl))
     rw [strCells_bytes, bytesV_app] at hT1
     have hT2 : w2.ownsRow w1.heap.size 5 1 v1 (rep acc y 0).length (bytesV (rep acc y 0)) := own_len hT1 (by rw [z0]; rfl) (by simp [rep])
     clear hT1 hT
     have hB1 := hb1.size
     clear hg1 hbel c0 c1 c2 hB
     generalize hBB : wr.heap.size = B at *
     clear hBB wr
     go_loopw [5, 25] (fun v i wx => ∃ j : Nat, j ≤ z ∧ i = .int .i64 j ∧ wx.ownsRow w1.heap.size 5 1 v (rep acc y j).length (bytesV (rep acc y j)) ∧ wx.heap[B]? = some (.cells #[.string ⟨#[]⟩, .int .i64 y, .int .i64 z] 174 (0, 0)) ∧ Below w1.heap.size w1 wx) (fun _ i _ => z - (intOf i).toNat)
     case atStart => exact ⟨0, by omega, rfl, hT2, hk1, hb1⟩
     case round =>
      clear hT2 hk1 d1 d2 hb1
      obtain ⟨j, hj, rfl, hT, hk1, hb1⟩ := hrel
      have hB2 := hb1.size
      have d1 := blk_cell (j := 1) hk1 rfl
      have d2 := blk_cell (j := 2) hk1 rfl
      have hL := hlr.out j
      by_cases hlt2 : j < z
      ·have hstep := Lib.hid (show rep acc y (j + 1) = rep acc y j ++ [(rep acc y j).getD ((rep acc y j).length - y) 0] from rfl)
       obtain ⟨x, hx⟩ : ∃ x, x = rep acc y j := ⟨_, rfl⟩
       rw [← hx] at hT hL
       have HX := Lib.hid hx
       clear hx
       obtain ⟨g, cp, rfl, hg0, hg1⟩ := own_some' hT (by omega)
       have hin : x.length - y < x.length := by omega
       have e0 : wr.cell? ⟨g, x.length - y, none⟩ = some (byteV (x.getD (x.length - y) 0)) := by
        rw [hT.cellAt _ (by omega), List.getElem?_map, List.getElem?_eq_getElem hin, getD_at _ _ _ hin]; rfl
       have hsub : (x.length : Int) - (y : Int) = ((x.length - y : Nat) : Int) := by omega
       have hlb : B < wr.heap.size := blk_lt hk1
       have hxl : y ≤ x.length := by omega
       have hx2 : x.length ≤ 20000 := by omega
       clear hL
       generalize hby : x.getD (x.length - y) 0 = by_ at *
       have HBY := Lib.hid hby
       clear hby
       go_wp2_with (first
        | (at_builtin; refine wpList_append_own _ rfl (.tmp 27) (.tmp 36) 61 rfl w1.heap.size 5 i0 (.int .u8 0) 1 1 Tryz.underlying61 hi hz0 hz1 hz2 rfl (by decide) _ x.length (bytesV x) rfl (hT.alloc _) ⟨wr.heap.size, 0, none⟩ 1 1 [byteV by_] rfl rfl (cells_new1 _ _ _) (by intro u hu; simp at hu; subst hu; rfl) (by unfold maxLen; omega) (by omega) (by simp; omega) ?_; intro v2 w3 hT3 hg3 _; have hb3 := grown_own (hb1.alloc hB2 _) hg3 (by simp; omega) (hT.alloc _); have hk3 := blk_kept (blk_below hk1 (below1 wr _)) (hT.alloc _) (by decide) hg3; have hT4 := own_snoc hT3))
       go_roundw
       case rel => exact ⟨j + 1, by omega, by go_num, own_len hT4 (by rw [hstep.out, ← HX.out, HBY.out]) (by rw [hstep.out, ← HX.out, HBY.out]), hk3, hb3⟩
       case measure => simp [intOf]; omega
      ·obtain rfl : j = z := by omega
       go_wp2
       go_roundw
       case rel => exact ⟨k + 1, by omega, by go_num, by rw [hst.out, hL]; exact Q5.out, own_len hT (by rw [hst.out]) (by rw [hst.out]), hb1⟩
       case measure => simp [intOf]; omega
    ·obtain ⟨q0, q1, q2, q3⟩ := tok_own hto hx h1
     simp only at q0 q1 q2 q3
     subst q0 q1
     have hst := Lib.hid (show tsofar l (k + 1) = tsofar l k ++ s.data.toList by rw [hsf.out]; unfold tstep; rw [if_pos h1])
     have Q3 := Lib.hid q3
     have X := Lib.hid hx
     clear hto hx hf h1 q3 hsf
     generalize hacc : tsofar l k = acc at *
     have HA := Lib.hid hacc
     clear hacc
     go_wp2_with (first
      | (at_builtin; refine Lib.wpList_append_own_string _ rfl (.tmp 19) (.tmp 21) 61 9 rfl w1.heap.size 5 i0 Tryz.underlying61 Tryz.underlying9 hi hz0 hz1 hz2 u5 acc.length (bytesV acc) rfl (hT.alloc _) s rfl (by unfold maxLen; omega) (by omega) (by simp; omega) ?_; intro v1 w2 hT1 hg1 _; have hb1 := grown_own (hbel.alloc hB _) hg1 (by simp; omega) (hT.alloc _); have hk1 := blk_kept (blk_new wr _) (hT.alloc _) (by decide) hg1; have d1 := blk_cell (j := 1) hk1 rfl; have d2 := blk_cell (j := 2) hk1 rfl))
     rw [strCells_bytes, bytesV_app] at hT1
     go_loopw [5, 25] (fun v i wx => v = v1 ∧ i = .int .i64 0 ∧ wx = w2) (fun _ i _ => 0 - (intOf i).toNat)
     case atStart => exact ⟨rfl, rfl, rfl⟩
     case round =>
      obtain ⟨rfl, rfl, rfl⟩ := hrel
      go_wp2
      go_roundw
      case rel => exact ⟨k + 1, by omega, by go_num, by rw [hst.out, List.length_append, size_len]; exact Q3.out, own_len hT1 (by rw [hst.out, List.length_append, size_len]) (by rw [hst.out]), hb1⟩
      case measure => simp [intOf]; omega
   ·obtain rfl : k = n := by omega
    have hend := Lib.hid (show tsofar l k = ttext l by unfold tsofar ttext; rw [List.take_of_length_le (by rw [hlen.out]; exact Nat.le_refl _)])
    rw [hend.out] at hT
    have hs1 := string_ownV (P := Tryz.prog) 61 5 9 Tryz.underlying61 Tryz.underlying5 Tryz.underlying9 hT
    go_wp2
    go_ret2
    rw [hR.out]
    exact ⟨_, rfl, .none, hb.trans (hbel.mono hb.size)⟩
end Go.Proofs.YtkejlnjnoiidnaaGreatDoor
end

section
namespace Go.Proofs.YtkejlnjnoiidnaaGreatDoor.Crc

def poly : Nat := 2197175160
/-- One bit's step. -/
def stp (n : Nat) : Nat := if n % 2 = 1 then (n / 2) ^^^ poly else n / 2
def iter : Nat → Nat → Nat
 | 0, n => n
 | k + 1, n => iter k (stp n)
def one (n : Nat) : Nat := iter 8 n
/-- A byte's step, as the program takes it. -/
def byteStep (n b : Nat) : Nat := one ((n % 256) ^^^ b) ^^^ (n / 256)
/-- All bytes' steps. -/
def run (n : Nat) (l : List UInt8) : Nat := l.foldl (fun n b => byteStep n b.toNat) n
/-- A bit taken in. -/
def bitStep (n bit : Nat) : Nat := stp (n ^^^ bit)
def bits8 : Nat → Nat → Nat → Nat
 | 0, n, _ => n
 | k + 1, n, b => bits8 k (bitStep n (b % 2)) (b / 2)

theorem xor_half (a b : Nat) : (a ^^^ b) / 2 = (a / 2) ^^^ (b / 2) := Nat.xor_div_two
theorem xor_low (a b : Nat) : (a ^^^ b) % 2 = (a % 2 + b % 2) % 2 := by
 have h := Nat.xor_mod_two_pow (a := a) (b := b) (n := 1)
 simp only [Nat.pow_one] at h
 rw [h]
 rcases Nat.mod_two_eq_zero_or_one a with ha | ha <;> rcases Nat.mod_two_eq_zero_or_one b with hb | hb <;> rw [ha, hb] <;> decide
theorem stp_xor (a b : Nat) : stp (a ^^^ b) = stp a ^^^ stp b := by
 unfold stp
 rw [xor_half, xor_low]
 rcases Nat.mod_two_eq_zero_or_one a with ha | ha <;> rcases Nat.mod_two_eq_zero_or_one b with hb | hb <;> simp [ha, hb]
 ·rw [Nat.xor_assoc]
 ·rw [Nat.xor_assoc, Nat.xor_assoc, Nat.xor_comm poly (b / 2)]
 ·rw [Nat.xor_assoc (a / 2) poly, ← Nat.xor_assoc poly, Nat.xor_comm poly (b / 2), Nat.xor_assoc (b / 2), Nat.xor_self, Nat.xor_zero]
theorem stp_double (b : Nat) : stp (2 * b) = b := by unfold stp; rw [if_neg (by omega)]; omega
theorem iter_xor (k a b : Nat) : iter k (a ^^^ b) = iter k a ^^^ iter k b := by
 induction k generalizing a b with
 | zero => rfl
 | succ k ih => show iter k (stp (a ^^^ b)) = iter k (stp a) ^^^ iter k (stp b); rw [stp_xor, ih]
theorem iter_shift (k b : Nat) : iter k (2 ^ k * b) = b := by
 induction k with
 | zero => simp [iter]
 | succ k ih =>
  show iter k (stp (2 ^ (k + 1) * b)) = b
  have e : 2 ^ (k + 1) * b = 2 * (2 ^ k * b) := by rw [Nat.pow_succ, Nat.mul_comm (2 ^ k) 2, Nat.mul_assoc]
  rw [e, stp_double, ih]
theorem xor_split (k n : Nat) : n = (n % 2 ^ k) ^^^ (2 ^ k * (n / 2 ^ k)) := by
 apply Nat.eq_of_testBit_eq
 intro i
 rw [Nat.testBit_xor, Nat.testBit_mod_two_pow, Nat.testBit_two_pow_mul, Nat.testBit_div_two_pow]
 by_cases h : i < k
 ·have h2 : ¬ k ≤ i := by omega
  simp [h, h2]
 ·have h2 : k ≤ i := by omega
  simp [h, h2]
theorem bits8_eq (k n b : Nat) : bits8 k n b = iter k (n ^^^ (b % 2 ^ k)) := by
 induction k generalizing n b with
 | zero => simp [bits8, iter, Nat.mod_one]
 | succ k ih =>
  show bits8 k (bitStep n (b % 2)) (b / 2) = iter k (stp (n ^^^ (b % 2 ^ (k + 1))))
  rw [ih]
  congr 1
  have e : b % 2 ^ (k + 1) = (b % 2) ^^^ (2 * (b / 2 % 2 ^ k)) := by
   have h := xor_split 1 (b % 2 ^ (k + 1))
   simp only [Nat.pow_one] at h
   rw [h]
   have h1 : b % 2 ^ (k + 1) % 2 = b % 2 := by
    rw [Nat.pow_succ, Nat.mod_mul_left_mod]
   have h2 : b % 2 ^ (k + 1) / 2 = b / 2 % 2 ^ k := by
    rw [Nat.pow_succ, Nat.mul_comm, Nat.mod_mul_right_div_self]
   rw [h1, h2]
  rw [e, ← Nat.xor_assoc, stp_xor (n ^^^ (b % 2)), stp_double]
  rfl
theorem byteStep_eq (n b : Nat) (hb : b < 256) : byteStep n b = bits8 8 n b := by
 rw [bits8_eq]
 have hb' : b % 2 ^ 8 = b := Nat.mod_eq_of_lt hb
 rw [hb']
 have h := xor_split 8 n
 have e : n ^^^ b = ((n % 256) ^^^ b) ^^^ (2 ^ 8 * (n / 256)) := by
  rw [Nat.xor_assoc, Nat.xor_comm b, ← Nat.xor_assoc]
  congr 1
 rw [e, iter_xor, iter_shift]
 rfl
theorem poly_lt : poly < 4294967296 := by decide
theorem stp_lt {n : Nat} (h : n < 4294967296) : stp n < 4294967296 := by
 unfold stp
 split
 ·exact Nat.xor_lt_two_pow (n := 32) (by omega) poly_lt
 ·omega
theorem iter_lt (k : Nat) {n : Nat} (h : n < 4294967296) : iter k n < 4294967296 := by
 induction k generalizing n with
 | zero => exact h
 | succ k ih => exact ih (stp_lt h)
theorem iter_succ (k n : Nat) : iter (k + 1) n = stp (iter k n) := by
 induction k generalizing n with
 | zero => rfl
 | succ k ih => show iter (k + 1) (stp n) = stp (iter k (stp n)); exact ih (stp n)
theorem byteStep_lt {n b : Nat} (h : n < 4294967296) (hb : b < 256) : byteStep n b < 4294967296 := by
 unfold byteStep
 refine Nat.xor_lt_two_pow (n := 32) (iter_lt 8 ?_) (by omega)
 have := Nat.xor_lt_two_pow (n := 8) (x := n % 256) (y := b) (by omega) hb
 omega
theorem run_lt {n : Nat} (h : n < 4294967296) (l : List UInt8) : run n l < 4294967296 := by
 induction l generalizing n with
 | nil => exact h
 | cons b l ih => exact ih (byteStep_lt h b.toNat_lt)
theorem run_snoc (n : Nat) (l : List UInt8) (b : UInt8) : run n (l ++ [b]) = byteStep (run n l) b.toNat := by simp [run, List.foldl_append]

/-- After i bits of a text: bit i % 8 of byte i / 8 is taken next. -/
def carried (n : Nat) (l : List UInt8) (i : Nat) : Nat := bits8 (i % 8) (run n (l.take (i / 8))) (l.getD (i / 8) 0).toNat
theorem bits8_snoc (k n b : Nat) : bits8 (k + 1) n b = bitStep (bits8 k n b) (b / 2 ^ k % 2) := by
 induction k generalizing n b with
 | zero => simp [bits8]
 | succ k ih =>
  show bits8 (k + 1) (bitStep n (b % 2)) (b / 2) = _
  rw [ih]
  have e : b / 2 / 2 ^ k = b / 2 ^ (k + 1) := by rw [Nat.div_div_eq_div_mul, Nat.pow_succ, Nat.mul_comm 2]
  rw [e]
  rfl
theorem carried_zero (n : Nat) (l : List UInt8) : carried n l 0 = n := by simp [carried, bits8, run]
theorem carried_succ (n : Nat) (l : List UInt8) (i : Nat) (h : i < 8 * l.length) :
  carried n l (i + 1) = bitStep (carried n l i) ((l.getD (i / 8) 0).toNat / 2 ^ (i % 8) % 2) := by
 unfold carried
 have hi : i / 8 < l.length := by omega
 have hg : l.getD (i / 8) 0 = l[i / 8] := by simp [List.getD, hi]
 rcases Nat.lt_or_ge (i % 8) 7 with h7 | h7
 ·have e1 : (i + 1) % 8 = i % 8 + 1 := by omega
  have e2 : (i + 1) / 8 = i / 8 := by omega
  rw [e1, e2, bits8_snoc]
 ·have e0 : i % 8 = 7 := by omega
  have e1 : (i + 1) % 8 = 0 := by omega
  have e2 : (i + 1) / 8 = i / 8 + 1 := by omega
  rw [e1, e2, e0, ← bits8_snoc]
  rw [List.take_succ_eq_append_getElem hi, run_snoc, byteStep_eq _ _ (UInt8.toNat_lt _), hg]
  rfl
theorem carried_end (n : Nat) (l : List UInt8) : carried n l (8 * l.length) = run n l := by
 unfold carried
 have e1 : 8 * l.length % 8 = 0 := by omega
 have e2 : 8 * l.length / 8 = l.length := by omega
 rw [e1, e2, List.take_length]
 rfl
theorem bitStep_lt {n b : Nat} (h : n < 4294967296) (hb : b < 2) : bitStep n b < 4294967296 :=
 stp_lt (Nat.xor_lt_two_pow (n := 32) h (by omega))
theorem bits8_lt (k : Nat) {n b : Nat} (h : n < 4294967296) : bits8 k n b < 4294967296 := by
 induction k generalizing n b with
 | zero => exact h
 | succ k ih => exact ih (bitStep_lt h (by omega))
theorem carried_lt {n : Nat} (h : n < 4294967296) (l : List UInt8) (i : Nat) : carried n l i < 4294967296 := bits8_lt _ (run_lt h _)
/-- A bit taken in, as the reference does it. -/
theorem bitStep_ref (n b : Nat) (hb : b < 2) : bitStep n b = if ((n % 2) ^^^ b) = 1 then (n / 2) ^^^ poly else n / 2 := by
 unfold bitStep stp
 rw [xor_half, xor_low]
 have h0 : b / 2 = 0 := by omega
 rw [h0, Nat.xor_zero]
 rcases Nat.mod_two_eq_zero_or_one n with ha | ha <;> rcases (by omega : b = 0 ∨ b = 1) with rfl | rfl <;> simp [ha]
end Go.Proofs.YtkejlnjnoiidnaaGreatDoor.Crc
end

section
namespace Go.Proofs.YtkejlnjnoiidnaaGreatDoor
def crcOf (s : ByteArray) : Nat := 4294967295 - Crc.run 4294967295 s.data.toList
theorem crcOf_lt (s : ByteArray) : crcOf s < 4294967296 := by unfold crcOf; omega
/-- k bytes of a number, the lowest first. -/
def lowB : Nat → Nat → List UInt8
 | 0, _ => []
 | k + 1, n => UInt8.ofNat (n % 256) :: lowB k (n / 256)
theorem lowB_len (k n : Nat) : (lowB k n).length = k := by
 induction k generalizing n with
 | zero => rfl
 | succ k ih => simp [lowB, ih]
theorem lowB_snoc (k n : Nat) : lowB (k + 1) n = lowB k n ++ [UInt8.ofNat (n / 256 ^ k % 256)] := by
 induction k generalizing n with
 | zero => simp [lowB]
 | succ k ih =>
  rw [lowB, ih (n / 256), lowB, Nat.div_div_eq_div_mul, Nat.pow_succ, Nat.mul_comm 256]
  rfl
theorem lowB_four (n : Nat) : lowB 4 n = [UInt8.ofNat (n % 256), UInt8.ofNat (n / 256 % 256), UInt8.ofNat (n / 65536 % 256), UInt8.ofNat (n / 16777216 % 256)] := by
 simp [lowB, Nat.div_div_eq_div_mul]
abbrev four (n : Nat) : ByteArray := strOf (lowB 4 n)
theorem strOf_len (l : List UInt8) : (strOf l).size = l.length := by show l.toArray.size = _; simp
theorem strOf_add (a b : List UInt8) : strOf (a ++ b) = strOf a ++ strOf b := by
 apply ByteArray.ext
 show (a ++ b).toArray = (strOf a ++ strOf b).data
 rw [ByteArray.data_append]
 simp
theorem strOf_nil (s : ByteArray) : s ++ strOf [] = s := by
 apply ByteArray.ext
 rw [ByteArray.data_append]
 simp
theorem str_assoc (a b c : ByteArray) : a ++ b ++ c = a ++ (b ++ c) := by
 apply ByteArray.ext
 simp only [ByteArray.data_append, Array.append_assoc]
def sealOf (s : ByteArray) : ByteArray := s ++ four (crcOf s)
theorem four_size (n : Nat) : (four n).size = 4 := by rw [strOf_len, lowB_len]
/-- A text without its sum; what is wrong. -/
def openOf (s : ByteArray) : ByteArray × Int := if s.size < 4 then (strOf [], 7) else if sealOf (s.extract 0 (s.size - 4)) = s then (s.extract 0 (s.size - 4), 0) else (strOf [], 15)
theorem open_short {s : ByteArray} (h : s.size < 4) : openOf s = (strOf [], 7) := by unfold openOf; rw [if_pos h]
theorem open_good {s : ByteArray} (h : ¬ s.size < 4) (h2 : sealOf (s.extract 0 (s.size - 4)) = s) : openOf s = (s.extract 0 (s.size - 4), 0) := by unfold openOf; rw [if_neg h, if_pos h2]
theorem open_bad {s : ByteArray} (h : ¬ s.size < 4) (h2 : ¬ sealOf (s.extract 0 (s.size - 4)) = s) : openOf s = (strOf [], 15) := by unfold openOf; rw [if_neg h, if_neg h2]
end Go.Proofs.YtkejlnjnoiidnaaGreatDoor
end

section
namespace Go.Proofs.YtkejlnjnoiidnaaGreatDoor
open Go.RowKit As
/-- The bytes so far, ahead of token k. -/
def bsofar (l : List Tok) (k : Nat) : List UInt8 := (l.take k).flatMap tbytes
theorem bsofar_succ {l : List Tok} {k : Nat} {t : Tok} (h : l[k]? = some t) : bsofar l (k + 1) = bsofar l k ++ tbytes t := by
 obtain ⟨hk, e⟩ := List.getElem?_eq_some_iff.1 h
 unfold bsofar
 rw [List.take_succ_eq_append_getElem hk, e, List.flatMap_append]; simp
theorem twrite_bad {l : List Tok} (h : (tright l).1 ≠ 0) : twrite l = (⟨#[]⟩, tright l) := by unfold twrite; rw [if_pos h]
theorem twrite_good {l : List Tok} (h : (tright l).1 = 0) : twrite l = (strOf (l.flatMap tbytes), 0, -1) := by unfold twrite; rw [if_neg (by omega)]
theorem tbytes_own {t : Tok} (h : t.1.size ≠ 0) : tbytes t = vput (2 * t.1.size) ++ t.1.data.toList := by unfold tbytes; rw [if_pos h]
theorem tbytes_rep {t : Tok} (h : t.1.size = 0) : tbytes t = vput (2 * (t.2.2 - 4).toNat + 1) ++ vput (t.2.1 - 1).toNat := by unfold tbytes; rw [if_neg (by omega)]
theorem strOf_toList' (s : ByteArray) : strOf s.data.toList = s := by
 apply ByteArray.ext; simp
theorem vput_is {n : Nat} {V : ByteArray} (hV : Hid (V = strOf (vput n))) (hn : n < 18446744073709551616) (w : World) : Calls Tryz.prog 38 #[.int .u64 (n : Int)] w fun e w' => e = .returned (.string V) ∧ Below w.heap.size w w' :=
 (vput_any n w hn).mono fun _ _ h => ⟨by rw [hV.out]; exact h.1, h.2⟩
theorem vput_short {n : Nat} {V : ByteArray} (hV : Hid (V = strOf (vput n))) (hn : n < 18446744073709551616) : V.size ≤ 10 := by
 rw [hV.out, strOf_len]; exact vput_len10 hn
set_option maxHeartbeats 2000000 in
set_option maxRecDepth 100000 in
theorem twrite_any (w : World) (n c : Nat) (A : Option Addr) (l : List Tok) (hl : Toks w w.heap.size A n l) (hn : n * 32 ≤ 140737488351232) :
  Calls Tryz.prog 95 #[.slice A n c] w fun e w' => ∃ v, e = .returned (.tuple #[.string (twrite l).1, v]) ∧ ErrOf w' v (twrite l).2 ∧ Below w.heap.size w w' := by
 have hlen := Lib.hid hl.len
 have hnM : n ≤ maxLen := by unfold maxLen; omega
 by_cases hbad : (tright l).1 ≠ 0
 ·have HB := Lib.hid hbad
  clear hbad
  go_enter Tryz.func95, Tryz.ntmps95
  go_wp2_with fail
  refine (tright_any w n c A l hl hnM).mono ?_
  rintro e w1 ⟨v, rfl, hv, hb⟩
  unfold ErrOf at hv
  have hR := Lib.hid (twrite_bad HB.out)
  have hbad := HB.out
  generalize hF : tright l = f at *
  obtain ⟨e1, p1⟩ := f
  simp only at hv hbad
  have HV := Lib.hid hv
  clear hF
  cases hv with
  | none => exact absurd rfl hbad
  | bare _ he =>
   clear hbad he
   go_wp2
   go_ret2
   rw [hR.out]
   exact ⟨_, rfl, HV.out, hb⟩
  | at_ b o _ _ he h0 h1 =>
   clear hbad he h0 h1
   go_wp2
   go_ret2
   rw [hR.out]
   exact ⟨_, rfl, HV.out, hb⟩
 ·have h0 : (tright l).1 = 0 := by omega
  have hok := Lib.hid (tright_ok h0)
  have hpl := tright_place h0
  have hR := Lib.hid (twrite_good h0)
  have hP := Lib.hid hpl
  clear hbad h0 hpl
  go_enter Tryz.func95, Tryz.ntmps95
  go_wp2_with fail
  refine (tright_any w n c A l hl hnM).mono ?_
  rintro e w1 ⟨v, rfl, hv, hb⟩
  rw [hP.out] at hv
  obtain ⟨rfl, _⟩ := ErrIs.zero hv
  have hl1 := hl.grow hb
  clear hv
  go_wp2
  go_loopw [5, 7, 15] (fun v _ i wr => ∃ k q : Nat, k ≤ n ∧ i = .int .i64 k ∧ TOk (l.drop k) q ∧ v = .string (strOf (bsofar l k)) ∧ Hid ((bsofar l k).length ≤ q + 30 * k) ∧ Below w1.heap.size w1 wr) (fun _ _ i _ => n - (intOf i).toNat)
  case atStart => exact ⟨0, 0, by omega, rfl, hok.out, rfl, Lib.hid (by simp [bsofar]), Below.refl _ _⟩
  case round =>
   obtain ⟨k, q, hk, rfl, hto, rfl, hbl, hbel⟩ := hrel
   have hB := hbel.size
   by_cases hlt : k < n
   ·obtain ⟨b, o, s, r, t, rfl, hb', hx, hf, c0, c1, c2⟩ := hl1.at_ hlt
    have c0 := (hbel.cell (p := ⟨b, o + k * 3, none⟩) (by simp; omega)).trans c0
    have c1 := (hbel.cell (p := ⟨b, o + k * 3 + 1, none⟩) (by simp; omega)).trans c1
    have c2 := (hbel.cell (p := ⟨b, o + k * 3 + 2, none⟩) (by simp; omega)).trans c2
    have hsf := Lib.hid (bsofar_succ hx)
    have hle := hto.le
    have hTl := strOf_len (bsofar l k)
    have hbl2 := hbl.out
    obtain ⟨T, hT⟩ : ∃ T, T = strOf (bsofar l k) := ⟨_, rfl⟩
    rw [← hT] at hTl ⊢
    have HT := Lib.hid hT
    clear hT
    by_cases h1 : s.size = 0
    ·obtain ⟨q0, q1, q2, q3, q4, q5⟩ := tok_rep hto hx h1
     simp only at q0 q1 q2 q3 q4 q5
     have htb := Lib.hid (tbytes_rep (t := (s, r, t)) h1)
     obtain ⟨z, rfl⟩ := Int.eq_ofNat_of_zero_le (show 0 ≤ t by omega)
     obtain ⟨y, rfl⟩ := Int.eq_ofNat_of_zero_le (show 0 ≤ r by omega)
     have hE : s.toList.isEmpty = true := str_no h1
     have e1 : IntKind.i64.wrap ((z : Int) - 4) = ((z - 4 : Nat) : Int) := by rw [IntWalk.i64_in _ (by omega)]; omega
     have e2 : IntKind.i64.wrap ((y : Int) - 1) = ((y - 1 : Nat) : Int) := by rw [IntWalk.i64_in _ (by omega)]; omega
     have X := Lib.hid hx
     have Q5 := Lib.hid q5
     clear hto hx hf h1 q5
     have k0 := Inv.cell (w := wr.alloc (.cells #[.string s, .int .i64 y, .int .i64 z] 174)) (a := ⟨wr.heap.size, 1, none⟩) (v := .int .i64 y) (by rw [World.cell?_alloc_new]; rfl)
     have k1 := Inv.cell (w := wr.alloc (.cells #[.string s, .int .i64 y, .int .i64 z] 174)) (a := ⟨wr.heap.size, 2, none⟩) (v := .int .i64 z) (by rw [World.cell?_alloc_new]; rfl)
     have hlt1 : 2 * (z - 4) + 1 < 18446744073709551616 := by omega
     have hlt2 : y - 1 < 18446744073709551616 := by omega
     have hor := Lib.hid (show bits BinOp.or IntKind.u64 (((z - 4 : Nat) : Int) * 2) 1 = ((2 * (z - 4) + 1 : Nat) : Int) by
      have e := u64_or_nat (2 * (z - 4)) 1 (by omega) (by omega)
      rw [nat_join 1 _ _ (by omega) (by omega)] at e
      rw [← e]
      congr 1
      omega)
     obtain ⟨V, hV⟩ : ∃ V, Hid (V = strOf (vput (2 * (z - 4) + 1))) := ⟨_, Lib.hid rfl⟩
     obtain ⟨U, hU⟩ : ∃ U, Hid (U = strOf (vput (y - 1))) := ⟨_, Lib.hid rfl⟩
     have hVs := vput_short hV hlt1
     have hUs := vput_short hU hlt2
     have z1 : ¬ 9223372036854775807 < V.size + U.size := by omega
     have z2 : ¬ 9223372036854775807 < T.size + (V.size + U.size) := by omega
     have htb2 := Lib.hid (show tbytes (s, (y : Int), (z : Int)) = vput (2 * (z - 4) + 1) ++ vput (y - 1) by
      rw [htb.out]
      have a1 : ((z : Int) - 4).toNat = z - 4 := by omega
      have a2 : ((y : Int) - 1).toNat = y - 1 := by omega
      simp only [a1, a2])
     go_wp2
     refine wp_region_inv (by kernel_rfl) (by kernel_rfl) ?_
     repeat (go_big_quiet_step ((first
      | (go_at_call 38; rw [hor.out]; exact Calls.inv_of (vput_is hV hlt1 _))
      | (go_at_call 38; exact Calls.inv_of (vput_is hU hlt2 _)))))
     refine wpQuiet_nil ?_
     intro _ hw'
     obtain ⟨x, rfl⟩ := hw'
     have hbx := x.below
     go_wp2
     go_roundw
     case rel => exact ⟨k + 1, q + z, by omega, by go_num, Q5.out, by rw [hsf.out, htb2.out, strOf_add, strOf_add, HT.out, hV.out, hU.out], Lib.hid (by rw [hsf.out, htb2.out]; simp only [List.length_append]; have := vput_len10 hlt1; have := vput_len10 hlt2; omega), hbel.trans ((below1 wr _).trans (hbx.mono (by simp)) |>.mono hB)⟩
     case measure => simp [intOf]; omega
    ·obtain ⟨q0, q1, q2, q3⟩ := tok_own hto hx h1
     simp only at q0 q1 q2 q3
     subst q0 q1
     have htb := Lib.hid (tbytes_own (t := (s, 0, 0)) h1)
     have hE : s.toList.isEmpty = false := str_yes h1
     have Q3 := Lib.hid q3
     have X := Lib.hid hx
     have hlt64 : 2 * s.size < 18446744073709551616 := by omega
     have hu64 := Lib.hid (show (s.size : Int) * 2 = ((2 * s.size : Nat) : Int) by omega)
     clear hto hx hf h1 q3
     have k0 := Inv.cell (w := wr.alloc (.cells #[.string s, .int .i64 0, .int .i64 0] 174)) (a := ⟨wr.heap.size, 0, none⟩) (v := .string s) (by rw [World.cell?_alloc_new]; rfl)
     obtain ⟨V, hV⟩ : ∃ V, Hid (V = strOf (vput (2 * s.size))) := ⟨_, Lib.hid rfl⟩
     have hVs := vput_short hV hlt64
     have z1 : ¬ 9223372036854775807 < V.size + s.size := by omega
     have z2 : ¬ 9223372036854775807 < T.size + (V.size + s.size) := by omega
     go_wp2
     refine wp_region_inv (by kernel_rfl) (by kernel_rfl) ?_
     repeat (go_big_quiet_step ((first
      | (go_at_call 38; rw [hu64.out]; exact Calls.inv_of (vput_is hV hlt64 _)))))
     refine wpQuiet_nil ?_
     intro _ hw'
     obtain ⟨x, rfl⟩ := hw'
     have hbx := x.below
     go_wp2
     go_roundw
     case rel => exact ⟨k + 1, q + s.size, by omega, by go_num, Q3.out, by rw [hsf.out, htb.out, strOf_add, strOf_add, strOf_toList', HT.out, hV.out], Lib.hid (by rw [hsf.out, htb.out]; simp only [List.length_append, size_len]; have := vput_len10 hlt64; omega), hbel.trans ((below1 wr _).trans (hbx.mono (by simp)) |>.mono hB)⟩
     case measure => simp [intOf]; omega
   ·obtain rfl : k = n := by omega
    have hend := Lib.hid (show bsofar l k = l.flatMap tbytes by unfold bsofar; rw [List.take_of_length_le (by rw [hlen.out]; exact Nat.le_refl _)])
    go_wp2
    go_ret2
    rw [hR.out, hend.out]
    exact ⟨_, rfl, .none, hb.trans (hbel.mono hb.size)⟩
end Go.Proofs.YtkejlnjnoiidnaaGreatDoor
end

section
namespace Go.Proofs.YtkejlnjnoiidnaaGreatDoor
open Go.RowKit As
set_option maxHeartbeats 2000000 in
set_option maxRecDepth 100000 in
theorem rtright_any (w : World) (n c : Nat) (A : Option Addr) (l : List Tok) (hl : Toks w w.heap.size A n l) (hn : n ≤ maxLen) :
  Calls Tryz.prog 127 #[.slice A n c] w fun e w' => e = .returned (faultV (tright l)) ∧ Below w.heap.size w w' := by
 unfold maxLen at hn
 have hlen := Lib.hid hl.len
 go_enter Tryz.func127, Tryz.ntmps127
 go_wp2
 go_loopw [3, 4, 5, 8] (fun m _ _ i wr => ∃ k p : Nat, k ≤ n ∧ i = .int .i64 k ∧ m = .int .i64 p ∧ TAt l k p ∧ Two wr w.heap.size 0 0 ∧ Below w.heap.size w wr) (fun _ _ _ i _ => n - (intOf i).toNat)
 case atStart => exact ⟨0, 0, by omega, rfl, rfl, TAt.zero l, Two.new _ _ _ _, below1 _ _⟩
 case round =>
  obtain ⟨k, p, hk, rfl, rfl, hat, hT, hbel⟩ := hrel
  have hp := hat.2
  have Hat := Lib.hid hat
  clear hat
  obtain ⟨g0, g1, f0, f1⟩ := hT
  have hs : w.heap.size < wr.heap.size := cell_lt g0
  by_cases hlt : k < n
  ·obtain ⟨b, o, s, r, t, rfl, hb, hx, hf, c0, c1, c2⟩ := hl.at_ hlt
   have c0 := (hbel.cell (p := ⟨b, o + k * 3, none⟩) (by simp; omega)).trans c0
   have c1 := (hbel.cell (p := ⟨b, o + k * 3 + 1, none⟩) (by simp; omega)).trans c1
   have c2 := (hbel.cell (p := ⟨b, o + k * 3 + 2, none⟩) (by simp; omega)).trans c2
   have hX := Lib.hid hx
   obtain ⟨f3, f4, f5⟩ := hf
   simp only at f3 f4 f5
   clear hx
   by_cases ha : tokArg (s, r, t)
   ·have hres := Lib.hid (Hat.out.arg hX.out ha)
    have hparts : (s.toList.isEmpty = true ∧ (t == 0) = true ∧ (r == 0) = true) ∨ (s.toList.isEmpty = false ∧ (t != 0) = true) ∨ (s.toList.isEmpty = false ∧ (t != 0) = false ∧ (r != 0) = true) := by
     unfold tokArg at ha
     simp only at ha
     rw [str_empty]
     simp only [decide_eq_true_eq, decide_eq_false_iff_not, bne_iff_ne, bne_eq_false_iff_eq, beq_iff_eq]
     omega
    clear ha
    have S := set2_alloc (.int .i64 1) (.int .i64 (k : Int)) (.cells #[.string s, .int .i64 r, .int .i64 t] 174) hs g0 g1
    rcases hparts with ⟨d0, d1, d2⟩ | ⟨d0, d1⟩ | ⟨d0, d1, d2⟩
    all_goals
     go_wp2_with fail
     exact bodyPost_ret (v := .agg #[.int .i64 1, .int .i64 (k : Int)]) (by simp [results, Tryz.results127, go_sem, S.1, S.2]) rfl ⟨by rw [hres.out]; rfl, (below_set2 _ _ hbel (Nat.le_refl _)).alloc (by simp; omega) _⟩
   ·by_cases h1 : s.size = 0
    ·have hparts : (s.toList.isEmpty = true ∧ (t == 0) = false) ∨ (s.toList.isEmpty = true ∧ (t == 0) = true ∧ (r == 0) = false) := by
      unfold tokArg at ha
      simp only at ha
      rw [str_empty]
      simp only [decide_eq_true_eq, beq_iff_eq, beq_eq_false_iff_ne]
      omega
     have Ha := Lib.hid ha
     have H1 := Lib.hid h1
     clear ha h1
     by_cases h2 : tokRange (s, r, t)
     ·have hres := Lib.hid (Hat.out.range hX.out Ha.out H1.out h2)
      have hq : inB t 4 67 = false ∨ (inB t 4 67 = true ∧ inB r 1 1024 = false) := by
       unfold tokRange at h2
       unfold inB
       simp only at h2
       simp only [decide_eq_true_eq, decide_eq_false_iff_not]
       omega
      clear h2
      have S := set2_alloc (.int .i64 2) (.int .i64 (k : Int)) (.cells #[.string s, .int .i64 r, .int .i64 t] 174) hs g0 g1
      rcases hq with e0 | ⟨e0, e1⟩
      ·have E0 := Lib.hid e0
       clear e0
       rcases hparts with ⟨d0, d1⟩ | ⟨d0, d1, d2⟩
       all_goals
        go_wp2_with fail
        refine (within_is E0 _).mono ?_
        rintro e w' ⟨rfl, rfl⟩
        go_wp2
        exact bodyPost_ret (v := .agg #[.int .i64 2, .int .i64 (k : Int)]) (by simp [results, Tryz.results127, go_sem, S.1, S.2]) rfl ⟨by rw [hres.out]; rfl, (below_set2 _ _ hbel (Nat.le_refl _)).alloc (by simp; omega) _⟩
      ·have E0 := Lib.hid e0
       have E1 := Lib.hid e1
       clear e0 e1
       rcases hparts with ⟨d0, d1⟩ | ⟨d0, d1, d2⟩
       all_goals
        go_wp2_with fail
        refine (within_is E0 _).mono ?_
        rintro e w' ⟨rfl, rfl⟩
        go_wp2_with fail
        refine (within_is E1 _).mono ?_
        rintro e w' ⟨rfl, rfl⟩
        go_wp2
        exact bodyPost_ret (v := .agg #[.int .i64 2, .int .i64 (k : Int)]) (by simp [results, Tryz.results127, go_sem, S.1, S.2]) rfl ⟨by rw [hres.out]; rfl, (below_set2 _ _ hbel (Nat.le_refl _)).alloc (by simp; omega) _⟩
     ·have ht : 4 ≤ t ∧ t ≤ 67 ∧ 1 ≤ r ∧ r ≤ 1024 := by unfold tokRange at h2; simp only at h2; omega
      have E0 := Lib.hid (show inB t 4 67 = true by unfold inB; simp; omega)
      have E1 := Lib.hid (show inB r 1 1024 = true by unfold inB; simp; omega)
      obtain ⟨q0, q1, q2, q3⟩ := ht
      have H2 := Lib.hid h2
      clear h2
      by_cases h3 : (p : Int) < r
      ·have hres := Lib.hid (Hat.out.missing hX.out Ha.out H1.out H2.out h3)
       have e4 : decide ((p : Int) < r) = true := by simpa using h3
       clear h3
       have S := set2_alloc (.int .i64 7) (.int .i64 (k : Int)) (.cells #[.string s, .int .i64 r, .int .i64 t] 174) hs g0 g1
       rcases hparts with ⟨d0, d1⟩ | ⟨d0, d1, d2⟩
       all_goals
        go_wp2_with fail
        refine (within_is E0 _).mono ?_
        rintro e w' ⟨rfl, rfl⟩
        go_wp2_with fail
        refine (within_is E1 _).mono ?_
        rintro e w' ⟨rfl, rfl⟩
        go_wp2
        exact bodyPost_ret (v := .agg #[.int .i64 7, .int .i64 (k : Int)]) (by simp [results, Tryz.results127, go_sem, S.1, S.2]) rfl ⟨by rw [hres.out]; rfl, (below_set2 _ _ hbel (Nat.le_refl _)).alloc (by simp; omega) _⟩
      ·have e4 : decide ((p : Int) < r) = false := by simpa using h3
       have H3 := Lib.hid h3
       clear h3
       by_cases h4 : 20000 < p + t.toNat
       ·have hres := Lib.hid (Hat.out.big hX.out Ha.out H1.out H2.out H3.out h4)
        have e5 : decide (20000 < (p : Int) + t) = true := by simp; omega
        clear h4
        have S := set2_alloc (.int .i64 4) (.int .i64 (k : Int)) (.cells #[.string s, .int .i64 r, .int .i64 t] 174) hs g0 g1
        rcases hparts with ⟨d0, d1⟩ | ⟨d0, d1, d2⟩
        all_goals
         go_wp2_with fail
         refine (within_is E0 _).mono ?_
         rintro e w' ⟨rfl, rfl⟩
         go_wp2_with fail
         refine (within_is E1 _).mono ?_
         rintro e w' ⟨rfl, rfl⟩
         go_wp2
         exact bodyPost_ret (v := .agg #[.int .i64 4, .int .i64 (k : Int)]) (by simp [results, Tryz.results127, go_sem, S.1, S.2]) rfl ⟨by rw [hres.out]; rfl, (below_set2 _ _ hbel (Nat.le_refl _)).alloc (by simp; omega) _⟩
       ·have hnext := Lib.hid (Hat.out.next hX.out Ha.out H1.out H2.out H3.out h4)
        have e5 : decide (20000 < (p : Int) + t) = false := by simp; omega
        have H4 := Lib.hid h4
        clear h4
        rcases hparts with ⟨d0, d1⟩ | ⟨d0, d1, d2⟩
        all_goals
         go_wp2_with fail
         refine (within_is E0 _).mono ?_
         rintro e w' ⟨rfl, rfl⟩
         go_wp2_with fail
         refine (within_is E1 _).mono ?_
         rintro e w' ⟨rfl, rfl⟩
         go_wp2
         go_roundw
         case rel => exact ⟨k + 1, p + t.toNat, by omega, by go_num, valI (by omega), hnext.out, (Two.mk g0 g1 f0 f1).below (below1 _ _), hbel.alloc (by omega) _⟩
         case measure => simp [intOf]; omega
    ·have d0 : s.toList.isEmpty = false := str_yes h1
     have hz : t = 0 ∧ r = 0 := by unfold tokArg at ha; simp only at ha; omega
     obtain ⟨rfl, rfl⟩ := hz
     have Ha := Lib.hid ha
     have H1 := Lib.hid h1
     clear ha h1
     by_cases h2 : 20000 < p + s.size
     ·have hres := Lib.hid (Hat.out.ownBig hX.out Ha.out H1.out h2)
      have e5 : decide (20000 < (p : Int) + (s.size : Int)) = true := by simp; omega
      clear h2
      have S := set2_alloc (.int .i64 4) (.int .i64 (k : Int)) (.cells #[.string s, .int .i64 0, .int .i64 0] 174) hs g0 g1
      go_wp2
      exact bodyPost_ret (v := .agg #[.int .i64 4, .int .i64 (k : Int)]) (by simp [results, Tryz.results127, go_sem, S.1, S.2]) rfl ⟨by rw [hres.out]; rfl, (below_set2 _ _ hbel (Nat.le_refl _)).alloc (by simp; omega) _⟩
     ·have hnext := Lib.hid (Hat.out.ownNext hX.out Ha.out H1.out h2)
      have e5 : decide (20000 < (p : Int) + (s.size : Int)) = false := by simp; omega
      have e6 : s.size ≤ 20000 := by omega
      have e7 : wrap64 ((p : Int) + (s.size : Int)) = (p : Int) + (s.size : Int) := by unfold wrap64; omega
      go_wp2
      go_roundw
      case rel => exact ⟨k + 1, p + s.size, by omega, by go_num, by go_num, hnext.out, (Two.mk g0 g1 f0 f1).below (below1 _ _), hbel.alloc (by omega) _⟩
      case measure => simp [intOf]; omega
  ·obtain rfl : k = n := by omega
   have hend := Lib.hid (Hat.out.all (by rw [hlen.out]; exact Nat.le_refl _))
   clear hlt
   go_wp2_with fail
   refine (good_any _).mono ?_
   rintro e w' ⟨rfl, hb⟩
   have f0 := (hb.frozen (p := ⟨w.heap.size, 0, none⟩) hs).trans f0
   have f1 := (hb.frozen (p := ⟨w.heap.size, 1, none⟩) hs).trans f1
   have g0 := (hb.cell (p := ⟨w.heap.size, 0, none⟩) hs).trans g0
   have g1 := (hb.cell (p := ⟨w.heap.size, 1, none⟩) hs).trans g1
   have S := set2 (.int .i64 0) (.int .i64 (-1)) g0 g1
   go_wp2
   exact bodyPost_ret (v := .agg #[.int .i64 0, .int .i64 (-1)]) (by simp [results, Tryz.results127, go_sem, S.1, S.2]) rfl ⟨by rw [hend.out]; rfl, below_set2 _ _ (hbel.trans (hb.mono (by omega))) (Nat.le_refl _)⟩
end Go.Proofs.YtkejlnjnoiidnaaGreatDoor
end

section
namespace Go.Proofs.YtkejlnjnoiidnaaGreatDoor
open Go.RowKit As
theorem is_any (f : Int × Int) (w : World) : Calls Tryz.prog 27 #[.agg #[.int .i64 f.1, .int .i64 f.2]] w fun r w' => r = .returned (.bool (f.1 == 0)) ∧ Below w.heap.size w w' := by
 go_enter Tryz.func27, Tryz.ntmps27
 go_wp2
 go_ret
 exact ⟨rfl, below1 _ _⟩
end Go.Proofs.YtkejlnjnoiidnaaGreatDoor
end

section
namespace Go.Proofs.YtkejlnjnoiidnaaGreatDoor
open Go.RowKit As
theorem strOf_ext (l : List UInt8) (a b : Nat) : (strOf l).extract a b = strOf ((l.drop a).take (b - a)) := by
 apply ByteArray.ext
 simp [ByteArray.data_extract]
/-- How long a text is. -/
def strLen : Value → Nat
 | .string s => s.size
 | _ => 0
theorem strOf_toList (s : ByteArray) : strOf s.data.toList = s := by
 apply ByteArray.ext; simp
set_option maxHeartbeats 2000000 in
set_option maxRecDepth 100000 in
theorem rtext_any (w : World) (n c : Nat) (A : Option Addr) (l : List Tok) (hl : Toks w w.heap.size A n l) (hn : n ≤ maxLen) :
  Calls Tryz.prog 112 #[.slice A n c] w fun e w' => e = .returned (.tuple #[.string (textOf l).1, faultV (textOf l).2]) ∧ Below w.heap.size w w' := by
 have hlen := Lib.hid hl.len
 by_cases hbad : (tright l).1 ≠ 0
 ·have HB := Lib.hid hbad
  have hR := Lib.hid (text_bad hbad)
  clear hbad
  go_enter Tryz.func112, Tryz.ntmps112
  go_wp2_with fail
  refine (rtright_any _ n c A l (hl.grow (below1 _ _)) hn).mono ?_
  rintro e w1 ⟨rfl, hb⟩
  unfold faultV
  have hbad := HB.out
  generalize hF : tright l = f at *
  clear hF
  obtain ⟨e1, p1⟩ := f
  simp only at hbad
  go_wp2_with fail
  refine (is_any (e1, p1) _).mono ?_
  rintro r w2 ⟨rfl, hb2⟩
  have hne : (e1 == 0) = false := beq_eq_false_iff_ne.2 hbad
  have T0 := (((Two.new w 0 0 29).below hb).below (below1 w1 (.cells #[.int .i64 e1, .int .i64 p1] 29))).below hb2
  have T1 := (Two.new w1 e1 p1 29).below hb2
  have hz := hb.size
  simp only [World.size_alloc] at hz
  have hbb : Below w.heap.size w w2 := ((below1 _ _).trans (hb.mono (by simp))).trans (((below1 w1 _).trans (hb2.mono (by simp))).mono (by omega))
  obtain ⟨c0, c1, f0, f1⟩ := T0
  obtain ⟨d0, d1, g0, g1⟩ := T1
  simp only [hne]
  go_wp2_with fail
  go_region
  have S := set2 (.int .i64 e1) (.int .i64 p1) c0 c1
  go_wp2
  exact bodyPost_ret (v := .tuple #[.string ⟨#[]⟩, .agg #[.int .i64 e1, .int .i64 p1]]) (by simp [results, Tryz.results112, go_sem, S.1, S.2]) rfl ⟨by rw [hR.out]; rfl, (below_set2 _ _ hbb (Nat.le_refl _)).drew⟩
 ·have h0 : (tright l).1 = 0 := by omega
  have hok := Lib.hid (tright_ok h0)
  have hP := Lib.hid (tright_place h0)
  have hR := Lib.hid (text_good h0)
  clear hbad h0
  unfold maxLen at hn
  go_enter Tryz.func112, Tryz.ntmps112
  go_wp2_with fail
  refine (rtright_any _ n c A l (hl.grow (below1 _ _)) (by unfold maxLen; omega)).mono ?_
  rintro e w1 ⟨rfl, hb⟩
  rw [hP.out]
  unfold faultV
  go_wp2_with fail
  refine (is_any (0, -1) _).mono ?_
  rintro r w2 ⟨rfl, hb2⟩
  have hne : ((0 : Int) == 0) = true := rfl
  have T0 := (((Two.new w 0 0 29).below hb).below (below1 w1 (.cells #[.int .i64 0, .int .i64 (-1)] 29))).below hb2
  have hz := hb.size
  simp only [World.size_alloc] at hz
  have hbb : Below w.heap.size w w2 := ((below1 _ _).trans (hb.mono (by simp))).trans (((below1 w1 _).trans (hb2.mono (by simp))).mono (by omega))
  have hl2 := hl.grow hbb
  have hw0 : w.heap.size < w2.heap.size := T0.lt
  simp only [hne]
  clear hb hb2 hz hl
  go_wp2
  go_loopw [5, 7, 8, 17] (fun v _ _ i wr => ∃ k : Nat, k ≤ n ∧ i = .int .i64 k ∧ TOk (l.drop k) (tsofar l k).length ∧ v = .string (strOf (tsofar l k)) ∧ Below w2.heap.size w2 wr) (fun _ _ _ i _ => n - (intOf i).toNat)
  case atStart => exact ⟨0, by omega, rfl, hok.out, rfl, Below.refl _ _⟩
  case round =>
   obtain ⟨k, hk, rfl, hto, rfl, hbel⟩ := hrel
   have hB := hbel.size
   by_cases hlt : k < n
   ·obtain ⟨b, o, s, r, t, rfl, hb', hx, hf, c0, c1, c2⟩ := hl2.at_ hlt
    have c0 := (hbel.cell (p := ⟨b, o + k * 3, none⟩) (by simp; omega)).trans c0
    have c1 := (hbel.cell (p := ⟨b, o + k * 3 + 1, none⟩) (by simp; omega)).trans c1
    have c2 := (hbel.cell (p := ⟨b, o + k * 3 + 2, none⟩) (by simp; omega)).trans c2
    have hsf := Lib.hid (tsofar_succ hx)
    have hle := hto.le
    by_cases h1 : s.size = 0
    ·obtain ⟨q0, q1, q2, q3, q4, q5⟩ := tok_rep hto hx h1
     simp only at q0 q1 q2 q3 q4 q5
     have hst := Lib.hid (show tsofar l (k + 1) = rep (tsofar l k) r.toNat t.toNat by rw [hsf.out]; unfold tstep; rw [if_neg (by simpa using h1)])
     obtain ⟨z, rfl⟩ := Int.eq_ofNat_of_zero_le (show 0 ≤ t by omega)
     obtain ⟨y, rfl⟩ := Int.eq_ofNat_of_zero_le (show 0 ≤ r by omega)
     rw [Int.toNat_natCast, Int.toNat_natCast] at hst
     rw [Int.toNat_natCast] at q4 q5
     have Q5 := Lib.hid q5
     have X := Lib.hid hx
     have hs0 : s = ⟨#[]⟩ := by
      apply ByteArray.ext
      apply Array.eq_empty_of_size_eq_zero
      simpa using h1
     subst hs0
     have z0 : (⟨#[]⟩ : ByteArray).size = 0 := rfl
     have hlr := Lib.hid (rep_len (tsofar l k) y z)
     have hov := Lib.hid (rep_over (tsofar l k) y z (by omega) (by omega))
     clear hto hx hf h1 q5 hsf
     generalize hacc : tsofar l k = acc at *
     have HA := Lib.hid hacc
     clear hacc
     have hpl : (acc.drop (acc.length - y)).length = y := by simp; omega
     have hTl := strOf_len acc
     have hex := strOf_ext acc (acc.length - y) acc.length
     rw [List.take_of_length_le (by rw [hpl]; omega)] at hex
     have hself := over_self (acc.drop (acc.length - y))
     rw [hpl] at hself
     obtain ⟨P, hP⟩ : ∃ P, P = acc.drop (acc.length - y) := ⟨_, rfl⟩
     rw [← hP] at hself hpl hex hov
     obtain ⟨T, hT⟩ : ∃ T, T = strOf acc := ⟨_, rfl⟩
     have hnil := Lib.hid (strOf_nil T)
     rw [← hT] at hTl hex ⊢
     have HEX := Lib.hid hex
     have HSELF := Lib.hid hself
     have HPL := Lib.hid hpl
     have HT := Lib.hid hT
     have HPP := Lib.hid hP
     clear hT hP hex hself hpl
     have hcat : T.size + (⟨#[]⟩ : ByteArray).size ≤ 9223372036854775807 := by omega
     have hE : T ++ (⟨#[]⟩ : ByteArray) = T := hnil.out
     go_wp2
     rw [HEX.out]
     go_loop [8] (fun v => ∃ m : Nat, 1 ≤ m ∧ m * y ≤ 100000 ∧ v = .string (strOf (over P (m * y)))) (fun v => z - strLen v)
     case atStart => exact ⟨1, by omega, by omega, by rw [Nat.one_mul, HSELF.out]⟩
     case round =>
      obtain ⟨m, hm, hm2, rfl⟩ := hrel
      have hlo : (strOf (over P (m * y))).size = m * y := by rw [strOf_len, over_len]
      have hdb := Lib.hid (over_double P (over P (m * y)) m (by rw [HPL.out]))
      have hmy : y ≤ m * y := Nat.le_mul_of_pos_left y hm
      have h2m : 2 * m * y = m * y + m * y := by rw [Nat.mul_assoc, Nat.two_mul]
      rw [HPL.out] at hdb
      have hadd := Lib.hid (strOf_add (over P (m * y)) (over P (m * y)))
      obtain ⟨q, hq⟩ : ∃ q, q = m * y := ⟨_, rfl⟩
      rw [← hq] at hlo hdb hmy h2m hadd hm2 ⊢
      obtain ⟨U, hU⟩ : ∃ U, U = strOf (over P q) := ⟨_, rfl⟩
      rw [← hU] at hlo hadd ⊢
      have HU := Lib.hid hU
      have HQ := Lib.hid hq
      have H2 := Lib.hid h2m
      clear hU hq h2m
      by_cases hlt2 : q < z
      ·have hc2 : U.size + U.size ≤ 9223372036854775807 := by omega
       go_wp2
       go_round
       case rel => exact ⟨2 * m, by omega, by rw [H2.out]; omega, by rw [← hadd.out, hdb.out]⟩
       case measure => simp only [strLen, ByteArray.size_append]; omega
      ·have hex2 := Lib.hid (strOf_ext (over P q) 0 z)
       have htk := Lib.hid (over_take P z q (by omega))
       rw [← HU.out] at hex2
       rw [List.drop_zero, Nat.sub_zero, htk.out] at hex2
       have hle3 : z ≤ q := by omega
       have hsz3 : (strOf (over P z)).size = z := by rw [strOf_len, over_len]
       obtain ⟨V, hV⟩ : ∃ V, V = strOf (over P z) := ⟨_, rfl⟩
       rw [← hV] at hsz3 hex2
       have HV := Lib.hid hV
       clear hV
       have hc3 : T.size + V.size ≤ 9223372036854775807 := by omega
       have hX3 : U.extract 0 z = V := hex2.out
       go_wp2
       go_roundw
       case rel => exact ⟨k + 1, by omega, by go_num, by rw [hst.out, hlr.out]; exact Q5.out, by rw [hst.out, hov.out, strOf_add, HT.out, HV.out], hbel.alloc hB _⟩
       case measure => simp [intOf]; omega
    ·obtain ⟨q0, q1, q2, q3⟩ := tok_own hto hx h1
     simp only at q0 q1 q2 q3
     subst q0 q1
     have hst := Lib.hid (show tsofar l (k + 1) = tsofar l k ++ s.data.toList by rw [hsf.out]; unfold tstep; rw [if_pos h1])
     have Q3 := Lib.hid q3
     have X := Lib.hid hx
     clear hto hx hf h1 q3 hsf
     generalize hacc : tsofar l k = acc at *
     have HA := Lib.hid hacc
     clear hacc
     have hTl := strOf_len acc
     obtain ⟨T, hT⟩ : ∃ T, T = strOf acc := ⟨_, rfl⟩
     rw [← hT] at hTl ⊢
     have HT := Lib.hid hT
     clear hT
     have hcat : T.size + s.size ≤ 9223372036854775807 := by omega
     go_wp2
     go_roundw
     case rel => exact ⟨k + 1, by omega, by go_num, by rw [hst.out, List.length_append, size_len]; exact Q3.out, by rw [hst.out, strOf_add, strOf_toList, HT.out], hbel.alloc hB _⟩
     case measure => simp [intOf]; omega
   ·obtain rfl : k = n := by omega
    have hend := Lib.hid (show tsofar l k = ttext l by unfold tsofar ttext; rw [List.take_of_length_le (by rw [hlen.out]; exact Nat.le_refl _)])
    go_wp2_with fail
    refine (good_any _).mono ?_
    rintro e w3 ⟨rfl, hb3⟩
    have hb4 := hbb.trans ((hbel.trans (hb3.mono hB)).mono hbb.size)
    obtain ⟨c0, c1, f0, f1⟩ := T0.keep (hbel.trans (hb3.mono hB)) hw0
    have S := set2 (.int .i64 0) (.int .i64 (-1)) c0 c1
    go_wp2
    exact bodyPost_ret (v := .tuple #[.string (strOf (tsofar l k)), .agg #[.int .i64 0, .int .i64 (-1)]]) (by simp [results, Tryz.results112, go_sem, S.1, S.2]) rfl ⟨by rw [hR.out, hend.out]; rfl, below_set2 _ _ hb4 (Nat.le_refl _)⟩
end Go.Proofs.YtkejlnjnoiidnaaGreatDoor
end

section
namespace Go.Proofs.YtkejlnjnoiidnaaGreatDoor
theorem bitLen7 : ∀ n : Fin 128, (Lib.bitLen n.val + 6) / 7 ≤ 1 := by decide +kernel
theorem bitLen_pos {n : Nat} (h : n ≠ 0) : 0 < Lib.bitLen n := by
 unfold Lib.bitLen Lib.bitLenAux
 rw [if_neg h]
 omega
theorem vput_size (f : Nat) : ∀ n : Nat, n < 128 ^ f → n < 18446744073709551616 → (vput n).length = max 1 ((Lib.bitLen n + 6) / 7) := by
 induction f with
 | zero =>
  intro n h _
  obtain rfl : n = 0 := by simpa using h
  rw [vput_small (by omega)]
  decide
 | succ f ih =>
  intro n h hn
  by_cases h7 : n < 128
  ·rw [vput_small h7]
   have := bitLen7 ⟨n, h7⟩
   simp only at this
   simp
   omega
  ·rw [vput_big h7, List.length_cons, ih (n / 128) (by rw [Nat.pow_succ] at h; omega) (by omega)]
   have hs := Lib.bitLen_shift 7 n (by omega) hn
   have hp := bitLen_pos (n := n / 128) (by omega)
   have e : n / 2 ^ 7 = n / 128 := rfl
   rw [hs, e]
   omega
/-- Byte i of a number. -/
def vbyte (n i : Nat) (last : Bool) : UInt8 := if last then UInt8.ofNat (n / 128 ^ i % 128) else UInt8.ofNat (n / 128 ^ i % 128 + 128)
theorem vput_get (i : Nat) : ∀ n : Nat, i < (vput n).length → (vput n)[i]? = some (vbyte n i (decide ((vput n).length = i + 1))) := by
 induction i with
 | zero =>
  intro n h
  by_cases h7 : n < 128
  ·rw [vput_small h7]
   simp [vbyte, Nat.mod_eq_of_lt h7]
  ·have hp := vput_pos (n / 128)
   rw [vput_big h7]
   have : ¬ (vput (n / 128)).length + 1 = 0 + 1 := by omega
   simp only [List.length_cons, List.getElem?_cons_zero, decide_eq_false this, vbyte]
   simp
 | succ i ih =>
  intro n h
  by_cases h7 : n < 128
  ·rw [vput_small h7] at h; simp at h
  ·rw [vput_big h7] at h ⊢
   simp only [List.length_cons] at h
   simp only [List.getElem?_cons_succ, List.length_cons]
   rw [ih (n / 128) (by omega)]
   have e : n / 128 / 128 ^ i = n / 128 ^ (i + 1) := by rw [Nat.div_div_eq_div_mul, Nat.pow_succ, Nat.mul_comm]
   have e2 : decide ((vput (n / 128)).length = i + 1) = decide ((vput (n / 128)).length + 1 = i + 1 + 1) := by rw [decide_eq_decide]; omega
   unfold vbyte
   rw [e, e2]
/-- The bytes ahead of byte i, and noughts from there on. -/
def vpart (n i : Nat) : List UInt8 := (vput n).take i ++ List.replicate ((vput n).length - i) 0
theorem vpart_zero (n : Nat) : vpart n 0 = List.replicate (vput n).length 0 := by simp [vpart]
theorem vpart_len (n i : Nat) (h : i ≤ (vput n).length) : (vpart n i).length = (vput n).length := by simp [vpart]; omega
theorem vpart_end (n : Nat) : vpart n (vput n).length = vput n := by simp [vpart]
theorem vpart_set (n i : Nat) (h : i < (vput n).length) : (vpart n i).set i (vbyte n i (decide ((vput n).length = i + 1))) = vpart n (i + 1) := by
 apply List.ext_getElem?
 intro j
 have hl : ((vput n).take i).length = i := by simp; omega
 have hg := vput_get i n h
 unfold vpart
 rw [List.getElem?_set]
 by_cases hij : i = j
 ·subst hij
  rw [if_pos rfl, if_pos (by simp; omega), List.getElem?_append_left (by simp; omega), List.getElem?_take, if_pos (by omega), hg]
 ·rw [if_neg hij]
  by_cases hj : j < i
  ·rw [List.getElem?_append_left (by simp; omega), List.getElem?_append_left (by simp; omega), List.getElem?_take, List.getElem?_take, if_pos hj, if_pos (by omega)]
  ·rw [List.getElem?_append_right (by simp; omega), List.getElem?_append_right (by simp; omega)]
   simp only [List.getElem?_replicate, List.length_take]
   by_cases hje : j < (vput n).length
   ·rw [if_pos (by omega), if_pos (by omega)]
   ·rw [if_neg (by omega), if_neg (by omega)]
end Go.Proofs.YtkejlnjnoiidnaaGreatDoor
end
