/- crc.Seal, crc.Open and Seal, Open of the reference say what sealOf and openOf say.

So many texts with their lengths ahead, one behind the other, in plain Lean. No program in sight.

vector.Right and VectorRight of the reference say what vright says.

span.All and Spans of the reference say what spansOf says.

chunk.Cut says what cutOf says.

chunk.Right and ChunkRight of the reference say what chkRight says.

chunk.Write and Chunk of the reference say what chkOf says. Printed by gen_chunk.py.

The program's receiver: Mark, New. Printed by gen_recvm.py. -/
import Derived.Test.YtfefpcdgflgaeaaGreatDoorZ1
import Derived.Test.YtfefpcdgflgaeaaGreatDoorZ4b
import Derived.Test.YtfefpcdgflgaeaaGreatDoorZ3
import Derived.Test.YtfefpcdgflgaeaaGreatDoorZ5
import Derived.Test.YtfefpcdgflgaeaaGreatDoorZ2
import Derived.Deep.Cut
import Derived.Deep.DeepCutAuto
import Derived.Deep.CutBlock
import Derived.Deep.QuietTactic
import Derived.BigQuiet
import Derived.Deep.RegionHeld3
import Derived.Deep.RegionWith
section
namespace Go.Proofs.YtfefpcdgflgaeaaGreatDoor
open Go.RowKit As
/-- The string of a slice that was built of bytes. -/
theorem string_new {P : Program} (w : World) (src e dst t : TypeId) (vs : Array Value) (l : List UInt8) (n : Nat) (hv : vs = (l.map byteV).toArray) (hn : n = l.length) (hs : P.underlying src = some (.slice e)) (he : P.underlying e = some (.int .u8)) (hd : P.underlying dst = some .string) :
  (convert src dst (.slice (some ⟨w.heap.size, 0, none⟩) n n)).run P (w.alloc (.cells vs t)) = .ok (.string (strOf l)) (w.alloc (.cells vs t)) := by
 subst hv hn
 refine string_of _ src e dst _ _ l hs he hd fun i hi => ⟨?_, ?_⟩
 ·rw [World.cell?_alloc_new]
  simp [List.getElem?_map, List.getElem?_eq_getElem hi]
 ·simp only [World.alloc, World.frozen?, Array.getElem?_push_size]
  simp
theorem u8_low (n : Nat) : IntKind.u8.wrap (n : Int) = ((UInt8.ofNat (n % 256)).toNat : Int) := by
 rw [IntKind.wrap_u8']
 have : (UInt8.ofNat (n % 256)).toNat = n % 256 := by simp
 rw [this]; omega
set_option maxRecDepth 100000 in
theorem seal_any (s : ByteArray) (w : World) (hs : s.size ≤ 1000000) :
  Calls Tryz.prog 42 #[.string s] w fun e w' => e = .returned (.string (sealOf s)) ∧ Below w.heap.size w w' := by
 obtain ⟨n, hn⟩ : ∃ n, n = crcOf s := ⟨_, rfl⟩
 have hlt := crcOf_lt s
 rw [← hn] at hlt
 have HN := Lib.hid hn
 clear hn
 go_enter Tryz.func42, Tryz.ntmps42
 go_wp2_with fail
 refine (Crc.sum_any s w (by unfold maxLen; omega)).mono ?_
 rintro e w' ⟨rfl, rfl⟩
 rw [show Crc.more 0 s.data.toList = n from HN.out.symm]
 go_wp2_with fail
 rw [string_new w 69 5 9 5 _ (lowB 4 n) 4 (by rw [lowB_four]; simp [byteV]; omega) (lowB_len 4 n).symm Tryz.underlying69 Tryz.underlying5 Tryz.underlying9]
 have h4 : (strOf (lowB 4 n)).size = 4 := four_size n
 generalize hF : strOf (lowB 4 n) = F at *
 have HF := Lib.hid hF
 clear hF
 have hcat : s.size + F.size ≤ 9223372036854775807 := by omega
 go_wp2_with fail
 go_ret
 exact ⟨by unfold sealOf four; rw [← HN.out, HF.out]; rfl, below1 _ _⟩
set_option maxRecDepth 100000 in
theorem rseal_any (s : ByteArray) (w : World) (hs : s.size ≤ 1000000) :
  Calls Tryz.prog 43 #[.string s] w fun e w' => e = .returned (.string (sealOf s)) ∧ Below w.heap.size w w' := by
 obtain ⟨n, hn⟩ : ∃ n, n = crcOf s := ⟨_, rfl⟩
 have hlt := crcOf_lt s
 rw [← hn] at hlt
 have HN := Lib.hid hn
 clear hn
 have h0 := Lib.hid (strOf_nil s)
 go_enter Tryz.func43, Tryz.ntmps43
 go_wp2_with fail
 refine (Crc.rsum_any s w (by omega)).mono ?_
 rintro e w' ⟨rfl, rfl⟩
 rw [show Crc.more 0 s.data.toList = n from HN.out.symm]
 go_wp2
 go_loopw [0, 3, 6] (fun a m i wr => ∃ k : Nat, k ≤ 4 ∧ i = .int .i64 k ∧ m = .int .u32 ((n / 256 ^ k : Nat) : Int) ∧ a = .string (s ++ strOf (lowB k n)) ∧ Below w.heap.size w wr) (fun _ _ i _ => 4 - (intOf i).toNat)
 case atStart => exact ⟨0, by omega, rfl, by simp, by rw [show lowB 0 n = [] from rfl, h0.out], Below.refl _ _⟩
 case round =>
  obtain ⟨k, hk, rfl, rfl, rfl, hbel⟩ := hrel
  have hB := hbel.size
  by_cases hlt : k < 4
  ·have hsn := Lib.hid (lowB_snoc k n)
   have hl := lowB_len k n
   obtain ⟨m, hm⟩ : ∃ m, m = n / 256 ^ k := ⟨_, rfl⟩
   have hmn : m ≤ n := by rw [hm]; exact Nat.div_le_self _ _
   rw [← hm]
   have hnx := Lib.hid (show n / 256 ^ (k + 1) = m / 256 by rw [hm, Nat.div_div_eq_div_mul, Nat.pow_succ])
   have HM := Lib.hid hm
   clear hm
   have hsz : (s ++ strOf (lowB k n)).size = s.size + k := by rw [ByteArray.size_append, strOf_len (lowB k n), hl]
   obtain ⟨T, hT⟩ : ∃ T, T = s ++ strOf (lowB k n) := ⟨_, rfl⟩
   rw [← hT] at hsz ⊢
   have HT := Lib.hid hT
   clear hT
   go_wp2_with fail
   rw [string_new wr 69 5 9 5 _ [UInt8.ofNat (m % 256)] 1 (by simp [byteV]) rfl Tryz.underlying69 Tryz.underlying5 Tryz.underlying9]
   have h1 : (strOf [UInt8.ofNat (m % 256)]).size = 1 := rfl
   generalize hF : strOf [UInt8.ofNat (m % 256)] = F at *
   have HF := Lib.hid hF
   clear hF
   have hcat : T.size + F.size ≤ 9223372036854775807 := by omega
   go_wp2_with fail
   go_roundw
   case rel => exact ⟨k + 1, by omega, by go_num, valI (by rw [hnx.out]; omega), by rw [HT.out, hsn.out, strOf_add, ← str_assoc, ← HF.out, HM.out], hbel.alloc hB _⟩
   case measure => simp [intOf]; omega
  ·obtain rfl : k = 4 := by omega
   go_wp2_with fail
   go_ret
   exact ⟨by unfold sealOf; rw [← HN.out]; rfl, hbel⟩
set_option maxRecDepth 100000 in
theorem open_any (s : ByteArray) (w : World) (hs : s.size ≤ 1000000) :
  Calls Tryz.prog 62 #[.string s] w fun e w' => e = .returned (.tuple #[.string (openOf s).1, errV (openOf s).2]) ∧ Below w.heap.size w w' := by
 by_cases h4 : s.size < 4
 ·have H := Lib.hid (open_short h4)
  have hd : decide (s.size < 4) = true := by simpa using h4
  go_enter Tryz.func62, Tryz.ntmps62
  go_wp2
  go_ret2
  exact ⟨by rw [H.out]; rfl, Below.refl _ _⟩
 ·have hd : decide (s.size < 4) = false := by simpa using h4
  have hsz : (s.extract 0 (s.size - 4)).size = s.size - 4 := by rw [ByteArray.size_extract]; omega
  have he := Lib.hid (show (s.extract 0 (s.size - 4)).size ≤ 1000000 by omega)
  clear hsz
  by_cases hg : sealOf (s.extract 0 (s.size - 4)) = s
  ·have H := Lib.hid (open_good h4 hg)
   have Hg := Lib.hid hg
   clear hg
   go_enter Tryz.func62, Tryz.ntmps62
   go_wp2_with fail
   refine (seal_any _ w he.out).mono ?_
   rintro e w' ⟨rfl, hb⟩
   rw [Hg.out]
   go_wp2
   go_ret2
   exact ⟨by rw [H.out]; rfl, hb⟩
  ·have H := Lib.hid (open_bad h4 hg)
   obtain ⟨Z, hZ⟩ : ∃ Z, Z = sealOf (s.extract 0 (s.size - 4)) := ⟨_, rfl⟩
   rw [← hZ] at hg
   have HZ := Lib.hid hZ
   clear hZ
   have hne := toList_ne hg
   clear hg
   go_enter Tryz.func62, Tryz.ntmps62
   go_wp2_with fail
   refine (seal_any _ w he.out).mono ?_
   rintro e w' ⟨rfl, hb⟩
   rw [← HZ.out]
   go_wp2
   go_ret2
   exact ⟨by rw [H.out]; rfl, hb⟩
set_option maxRecDepth 100000 in
theorem ropen_any (s : ByteArray) (w : World) (hs : s.size ≤ 1000000) :
  Calls Tryz.prog 65 #[.string s] w fun e w' => e = .returned (.tuple #[.string (openOf s).1, .int .i64 (openOf s).2]) ∧ Below w.heap.size w w' := by
 by_cases h4 : s.size < 4
 ·have H := Lib.hid (open_short h4)
  have hd : decide (s.size < 4) = true := by simpa using h4
  go_enter Tryz.func65, Tryz.ntmps65
  go_wp2
  go_ret2
  exact ⟨by rw [H.out]; rfl, Below.refl _ _⟩
 ·have hd : decide (s.size < 4) = false := by simpa using h4
  have hsz : (s.extract 0 (s.size - 4)).size = s.size - 4 := by rw [ByteArray.size_extract]; omega
  have he := Lib.hid (show (s.extract 0 (s.size - 4)).size ≤ 1000000 by omega)
  clear hsz
  by_cases hg : sealOf (s.extract 0 (s.size - 4)) = s
  ·have H := Lib.hid (open_good h4 hg)
   have Hg := Lib.hid hg
   clear hg
   go_enter Tryz.func65, Tryz.ntmps65
   go_wp2_with fail
   refine (rseal_any _ w he.out).mono ?_
   rintro e w' ⟨rfl, hb⟩
   rw [Hg.out]
   go_wp2
   go_ret2
   exact ⟨by rw [H.out]; rfl, hb⟩
  ·have H := Lib.hid (open_bad h4 hg)
   obtain ⟨Z, hZ⟩ : ∃ Z, Z = sealOf (s.extract 0 (s.size - 4)) := ⟨_, rfl⟩
   rw [← hZ] at hg
   have HZ := Lib.hid hZ
   clear hZ
   have hne := toList_ne hg
   clear hg
   go_enter Tryz.func65, Tryz.ntmps65
   go_wp2_with fail
   refine (rseal_any _ w he.out).mono ?_
   rintro e w' ⟨rfl, hb⟩
   rw [← HZ.out]
   go_wp2
   go_ret2
   exact ⟨by rw [H.out]; rfl, hb⟩
end Go.Proofs.YtfefpcdgflgaeaaGreatDoor
end

section
namespace Go.Proofs.YtfefpcdgflgaeaaGreatDoor
end Go.Proofs.YtfefpcdgflgaeaaGreatDoor
end

section
namespace Go.Proofs.YtfefpcdgflgaeaaGreatDoor
open Go.RowKit As
/-- An error that is what a pair says. -/
abbrev ErrOf (w : World) (v : Value) (f : Int × Int) : Prop := ErrIs w v f.1 f.2
theorem ErrOf.of {w : World} {v : Value} {e p : Int} {f : Int × Int} (h : ErrIs w v e p) (hf : f = (e, p)) : ErrOf w v f := by subst hf; exact h
/-- within. -/
def inB (n lo hi : Int) : Bool := decide (lo ≤ n ∧ n ≤ hi)
theorem within_any (n lo hi : Int) (w : World) : Calls Tryz.prog 69 #[.int .i64 n, .int .i64 lo, .int .i64 hi] w fun e w' => e = .returned (.bool (inB n lo hi)) ∧ w = w' := by
 by_cases h1 : lo ≤ n
 ·by_cases h2 : n ≤ hi
  ·have hb : inB n lo hi = true := by unfold inB; simp [h1, h2]
   have Hb := Lib.hid hb
   clear hb
   go_enter Tryz.func69, Tryz.ntmps69
   go_wp2
   go_ret
   exact ⟨retB Hb.out.symm, rfl⟩
  ·have hb : inB n lo hi = false := by unfold inB; simp [h1, h2]
   have Hb := Lib.hid hb
   clear hb
   go_enter Tryz.func69, Tryz.ntmps69
   go_wp2
   go_ret
   exact ⟨retB Hb.out.symm, rfl⟩
 ·have hb : inB n lo hi = false := by unfold inB; simp [h1]
  have Hb := Lib.hid hb
  clear hb
  go_enter Tryz.func69, Tryz.ntmps69
  go_wp2
  go_ret
  exact ⟨retB Hb.out.symm, rfl⟩
theorem within_is {n lo hi : Int} {b : Bool} (h : Hid (inB n lo hi = b)) (w : World) : Calls Tryz.prog 69 #[.int .i64 n, .int .i64 lo, .int .i64 hi] w fun e w' => e = .returned (.bool b) ∧ w = w' :=
 (within_any n lo hi w).mono fun _ _ ⟨a, b⟩ => ⟨by rw [a]; exact retB h, b⟩
/-- A new block of two numbers, later on. -/
structure Two (w : World) (s : Nat) (a b : Int) : Prop where
 c0 : w.cell? ⟨s, 0, none⟩ = some (.int .i64 a)
 c1 : w.cell? ⟨s, 1, none⟩ = some (.int .i64 b)
 f0 : w.frozen? ⟨s, 0, none⟩ = false
 f1 : w.frozen? ⟨s, 1, none⟩ = false
theorem Two.new (w : World) (a b : Int) (t : TypeId) : Two (w.alloc (.cells #[.int .i64 a, .int .i64 b] t)) w.heap.size a b :=
 ⟨by rw [World.cell?_alloc_at _ _ _ _ rfl]; rfl, by rw [World.cell?_alloc_at _ _ _ _ rfl]; rfl, by simp, by simp⟩
theorem Two.lt {w : World} {s : Nat} {a b : Int} (h : Two w s a b) : s < w.heap.size := cell_lt h.c0
theorem Two.keep {w w' : World} {s B : Nat} {a b : Int} (h : Two w s a b) (hb : Below B w w') (hs : s < B) : Two w' s a b :=
 ⟨(hb.cell (p := ⟨s, 0, none⟩) hs).trans h.c0, (hb.cell (p := ⟨s, 1, none⟩) hs).trans h.c1, (hb.frozen (p := ⟨s, 0, none⟩) hs).trans h.f0, (hb.frozen (p := ⟨s, 1, none⟩) hs).trans h.f1⟩
theorem Two.below {w w' : World} {s : Nat} {a b : Int} (h : Two w s a b) (hb : Below w.heap.size w w') : Two w' s a b := h.keep hb h.lt
end Go.Proofs.YtfefpcdgflgaeaaGreatDoor
end

section
namespace Go.Proofs.YtfefpcdgflgaeaaGreatDoor
open Go.RowKit As
end Go.Proofs.YtfefpcdgflgaeaaGreatDoor
end

section
namespace Go.Proofs.YtfefpcdgflgaeaaGreatDoor
open Go.RowKit As
end Go.Proofs.YtfefpcdgflgaeaaGreatDoor
end

section
namespace Go.Proofs.YtfefpcdgflgaeaaGreatDoor
set_option linter.unusedSimpArgs false
open Go.RowKit As
abbrev ckV (m t a : Int) (d : ByteArray) : Value := .agg #[.int .u32 m, .int .i64 t, .int .i64 a, .string d]
abbrev ckO (m t a : Int) (d : ByteArray) : Obj := .cells #[.int .u32 m, .int .i64 t, .int .i64 a, .string d] 77
/-- The piece's cells, later on. -/
structure CkAt (w : World) (B : Nat) (m t a : Int) (d : ByteArray) : Prop where
 c0 : w.cell? ⟨B, 0, none⟩ = some (.int .u32 m)
 c1 : w.cell? ⟨B, 1, none⟩ = some (.int .i64 t)
 c2 : w.cell? ⟨B, 2, none⟩ = some (.int .i64 a)
 c3 : w.cell? ⟨B, 3, none⟩ = some (.string d)
theorem CkAt.new (w : World) (m t a : Int) (d : ByteArray) : CkAt (w.alloc (ckO m t a d)) w.heap.size m t a d := by
 refine ⟨?_, ?_, ?_, ?_⟩ <;> (rw [World.cell?_alloc_new]; rfl)
theorem CkAt.below {w w' : World} {B : Nat} {m t a : Int} {d : ByteArray} (h : CkAt w B m t a d) (hb : Below w.heap.size w w') : CkAt w' B m t a d :=
 ⟨(hb.cell (cell_lt h.c0)).trans h.c0, (hb.cell (cell_lt h.c1)).trans h.c1, (hb.cell (cell_lt h.c2)).trans h.c2, (hb.cell (cell_lt h.c3)).trans h.c3⟩
set_option maxHeartbeats 1000000 in
set_option maxRecDepth 100000 in
theorem ckright_any (m t a : Int) (d : ByteArray) (w : World) : Calls Tryz.prog 64 #[ckV m t a d] w fun r w' => r = .returned (errV (chkRight t a d.size)) ∧ Below w.heap.size w w' := by
 have hW := CkAt.new w m t a d
 by_cases h1 : t < 1 ∨ 4096 < t ∨ a < 0 ∨ t < a
 ·have hr := Lib.hid (show chkRight t a d.size = 2 by unfold chkRight; rw [if_pos h1])
  have hq : decide (t < 1) = true ∨ (decide (t < 1) = false ∧ decide (4096 < t) = true) ∨ (decide (t < 1) = false ∧ decide (4096 < t) = false ∧ decide (a < 0) = true) ∨ (decide (t < 1) = false ∧ decide (4096 < t) = false ∧ decide (a < 0) = false ∧ decide (t < a) = true) := by
   simp only [decide_eq_true_eq, decide_eq_false_iff_not]; omega
  clear h1
  obtain ⟨c0, c1, c2, c3⟩ := hW
  rcases hq with d0 | ⟨d0, d1⟩ | ⟨d0, d1, d2⟩ | ⟨d0, d1, d2, d3⟩
  all_goals
   go_enter Tryz.func64, Tryz.ntmps64
   go_wp2
   go_ret
   exact ⟨by rw [hr.out]; rfl, below1 _ _⟩
 ·have d0 : decide (t < 1) = false := by simp only [decide_eq_false_iff_not]; omega
  have d1 : decide (4096 < t) = false := by simp only [decide_eq_false_iff_not]; omega
  have d2 : decide (a < 0) = false := by simp only [decide_eq_false_iff_not]; omega
  have d3 : decide (t < a) = false := by simp only [decide_eq_false_iff_not]; omega
  by_cases h2 : d.size = 0 ∨ 256 < d.size
  ·have hr := Lib.hid (show chkRight t a d.size = 4 by unfold chkRight; rw [if_neg h1, if_pos h2])
   have hq : d.toList.isEmpty = true ∨ (d.toList.isEmpty = false ∧ decide (256 < (d.size : Int)) = true) := by
    rw [str_empty']
    simp only [decide_eq_true_eq, decide_eq_false_iff_not]; omega
   clear h1 h2
   obtain ⟨c0, c1, c2, c3⟩ := hW
   rcases hq with e0 | ⟨e0, e1⟩
   all_goals
    go_enter Tryz.func64, Tryz.ntmps64
    go_wp2
    go_ret
    exact ⟨by rw [hr.out]; rfl, below1 _ _⟩
  ·have e0 : d.toList.isEmpty = false := by rw [str_empty']; simp only [decide_eq_false_iff_not]; omega
   have e1 : decide (256 < (d.size : Int)) = false := by simp only [decide_eq_false_iff_not]; omega
   have w1 : IntKind.i64.wrap (t - a) = t - a := IntWalk.i64_in _ (by omega)
   by_cases h3 : t - a < (d.size : Int)
   ·have hr := Lib.hid (show chkRight t a d.size = 2 by unfold chkRight; rw [if_neg h1, if_neg h2, if_pos h3])
    have f0 : decide (t - a < (d.size : Int)) = true := by simp only [decide_eq_true_eq]; omega
    clear h1 h2 h3
    obtain ⟨c0, c1, c2, c3⟩ := hW
    go_enter Tryz.func64, Tryz.ntmps64
    go_wp2
    go_ret
    exact ⟨by rw [hr.out]; rfl, below1 _ _⟩
   ·have hr := Lib.hid (show chkRight t a d.size = 0 by unfold chkRight; rw [if_neg h1, if_neg h2, if_neg h3])
    have f0 : decide (t - a < (d.size : Int)) = false := by simp only [decide_eq_false_iff_not]; omega
    clear h1 h2 h3
    obtain ⟨c0, c1, c2, c3⟩ := hW
    go_enter Tryz.func64, Tryz.ntmps64
    go_wp2
    go_ret
    exact ⟨by rw [hr.out]; rfl, below1 _ _⟩
set_option maxHeartbeats 1000000 in
set_option maxRecDepth 100000 in
theorem rckright_any (m t a : Int) (d : ByteArray) (w : World) (hd : d.size ≤ 1000000000000) : Calls Tryz.prog 68 #[ckV m t a d] w fun r w' => r = .returned (.int .i64 (chkRight t a d.size)) ∧ Below w.heap.size w w' := by
 have hW := CkAt.new w m t a d
 by_cases h1 : t < 1 ∨ 4096 < t ∨ a < 0 ∨ t < a
 ·have hr := Lib.hid (show chkRight t a d.size = 2 by unfold chkRight; rw [if_pos h1])
  by_cases h0 : t < 1 ∨ 4096 < t
  ·have B0 := Lib.hid (show inB t 1 4096 = false by unfold inB; rw [decide_eq_false]; omega)
   clear h1 h0
   obtain ⟨c0, c1, c2, c3⟩ := hW
   go_enter Tryz.func68, Tryz.ntmps68
   go_wp2_with fail
   refine (within_is B0 _).mono ?_
   rintro e w' ⟨rfl, rfl⟩
   go_wp2
   go_ret
   exact ⟨by rw [hr.out]; rfl, below1 _ _⟩
  ·have B0 := Lib.hid (show inB t 1 4096 = true by unfold inB; rw [decide_eq_true]; omega)
   have B1 := Lib.hid (show inB a 0 t = false by unfold inB; rw [decide_eq_false]; omega)
   clear h1 h0
   obtain ⟨c0, c1, c2, c3⟩ := hW
   go_enter Tryz.func68, Tryz.ntmps68
   go_wp2_with fail
   refine (within_is B0 _).mono ?_
   rintro e w' ⟨rfl, rfl⟩
   go_wp2_with fail
   refine (within_is B1 _).mono ?_
   rintro e w' ⟨rfl, rfl⟩
   go_wp2
   go_ret
   exact ⟨by rw [hr.out]; rfl, below1 _ _⟩
 ·have B0 := Lib.hid (show inB t 1 4096 = true by unfold inB; rw [decide_eq_true]; omega)
  have B1 := Lib.hid (show inB a 0 t = true by unfold inB; rw [decide_eq_true]; omega)
  by_cases h2 : d.size = 0 ∨ 256 < d.size
  ·have hr := Lib.hid (show chkRight t a d.size = 4 by unfold chkRight; rw [if_neg h1, if_pos h2])
   have B2 := Lib.hid (show inB (d.size : Int) 1 256 = false by unfold inB; rw [decide_eq_false]; omega)
   clear h1 h2
   obtain ⟨c0, c1, c2, c3⟩ := hW
   go_enter Tryz.func68, Tryz.ntmps68
   go_wp2_with fail
   refine (within_is B0 _).mono ?_
   rintro e w' ⟨rfl, rfl⟩
   go_wp2_with fail
   refine (within_is B1 _).mono ?_
   rintro e w' ⟨rfl, rfl⟩
   go_wp2_with fail
   refine (within_is B2 _).mono ?_
   rintro e w' ⟨rfl, rfl⟩
   go_wp2
   go_ret
   exact ⟨by rw [hr.out]; rfl, below1 _ _⟩
  ·have B2 := Lib.hid (show inB (d.size : Int) 1 256 = true by unfold inB; rw [decide_eq_true]; omega)
   have w1 : IntKind.i64.wrap (a + (d.size : Int)) = a + (d.size : Int) := IntWalk.i64_in _ (by omega)
   by_cases h3 : t - a < (d.size : Int)
   ·have hr := Lib.hid (show chkRight t a d.size = 2 by unfold chkRight; rw [if_neg h1, if_neg h2, if_pos h3])
    have f0 : decide (t < a + (d.size : Int)) = true := by simp only [decide_eq_true_eq]; omega
    clear h1 h2 h3
    obtain ⟨c0, c1, c2, c3⟩ := hW
    go_enter Tryz.func68, Tryz.ntmps68
    go_wp2_with fail
    refine (within_is B0 _).mono ?_
    rintro e w' ⟨rfl, rfl⟩
    go_wp2_with fail
    refine (within_is B1 _).mono ?_
    rintro e w' ⟨rfl, rfl⟩
    go_wp2_with fail
    refine (within_is B2 _).mono ?_
    rintro e w' ⟨rfl, rfl⟩
    go_wp2
    go_ret
    exact ⟨by rw [hr.out]; rfl, below1 _ _⟩
   ·have hr := Lib.hid (show chkRight t a d.size = 0 by unfold chkRight; rw [if_neg h1, if_neg h2, if_neg h3])
    have f0 : decide (t < a + (d.size : Int)) = false := by simp only [decide_eq_false_iff_not]; omega
    clear h1 h2 h3
    obtain ⟨c0, c1, c2, c3⟩ := hW
    go_enter Tryz.func68, Tryz.ntmps68
    go_wp2_with fail
    refine (within_is B0 _).mono ?_
    rintro e w' ⟨rfl, rfl⟩
    go_wp2_with fail
    refine (within_is B1 _).mono ?_
    rintro e w' ⟨rfl, rfl⟩
    go_wp2_with fail
    refine (within_is B2 _).mono ?_
    rintro e w' ⟨rfl, rfl⟩
    go_wp2
    go_ret
    exact ⟨by rw [hr.out]; rfl, below1 _ _⟩
end Go.Proofs.YtfefpcdgflgaeaaGreatDoor
end

section
namespace Go.Proofs.YtfefpcdgflgaeaaGreatDoor
set_option linter.unusedSimpArgs false
set_option linter.unusedVariables false
open Go.RowKit As
/-- The four bytes, behind the operation that makes them. -/
structure CI (w0 : World) (n g : Nat) (l11 : Bool) (w : World) : Prop where
 bel : Below w0.heap.size w0 w
 tmp : l11 = true → BytesAt w g (lowB 4 n)
theorem CI.grow {w0 w w' : World} {n g : Nat} {l11 : Bool} (h : CI w0 n g l11 w) (hb : Below w.heap.size w w') : CI w0 n g l11 w' :=
 ⟨h.bel.trans (hb.mono h.bel.size), fun h4 => (h.tmp h4).keep hb ((h.tmp h4).lt (by rw [lowB_len]; omega))⟩
theorem bytes_new {w : World} {vs : Array Value} {t : TypeId} {l : List UInt8} (hv : vs = (l.map byteV).toArray) : BytesAt (w.alloc (.cells vs t)) w.heap.size l := by
 subst hv
 intro i hi
 refine ⟨?_, ?_⟩
 ·rw [World.cell?_alloc_new]
  simp [List.getElem?_map, List.getElem?_eq_getElem hi]
 ·simp only [World.alloc, World.frozen?, Array.getElem?_push_size]
  simp
theorem CI.build {w0 w : World} {n g : Nat} {l11 : Bool} {vs : Array Value} {t : TypeId} (h : CI w0 n g l11 w) (hv : vs = ((lowB 4 n).map byteV).toArray) : CI w0 n w.heap.size true (w.alloc (.cells vs t)) :=
 ⟨h.bel.alloc h.bel.size _, fun _ => bytes_new hv⟩
theorem CI.str {P : Program} {w0 w : World} {n g : Nat} {l11 : Bool} (h : CI w0 n g l11 w) (h4 : l11 = true) (src e dst : TypeId) (hs : P.underlying src = some (.slice e)) (he : P.underlying e = some (.int .u8)) (hd : P.underlying dst = some .string) :
  (convert src dst (.slice (some ⟨g, 0, none⟩) 4 4)).run P w = .ok (.string (four n)) w := by
 have := string_of (P := P) w src e dst g 4 (lowB 4 n) hs he hd (h.tmp h4)
 rw [lowB_len] at this
 exact this
theorem four_cells (n : Nat) : (#[.int .u8 (IntKind.u8.wrap (n : Int)), .int .u8 (IntKind.u8.wrap ((n : Int) / 256)), .int .u8 (IntKind.u8.wrap ((n : Int) / 65536)), .int .u8 (IntKind.u8.wrap ((n : Int) / 16777216))] : Array Value) = ((lowB 4 n).map byteV).toArray := by
 rw [show (n : Int) / 256 = ((n / 256 : Nat) : Int) by omega, show (n : Int) / 65536 = ((n / 65536 : Nat) : Int) by omega, show (n : Int) / 16777216 = ((n / 16777216 : Nat) : Int) by omega, lowB_four, u8_low, u8_low, u8_low, u8_low]
 rfl
set_option maxRecDepth 100000 in
/-- four of the reference. -/
theorem rfour_any (n : Nat) (w : World) (hn : n < 4294967296) :
  Calls Tryz.prog 45 #[.int .u32 (n : Int)] w fun e w' => e = .returned (.string (four n)) ∧ Below w.heap.size w w' := by
 have h0 := Lib.hid (show (⟨#[]⟩ : ByteArray) = strOf (lowB 0 n) from rfl)
 go_enter Tryz.func45, Tryz.ntmps45
 go_wp2
 go_loopw [0, 3, 4] (fun m a i wr => ∃ k : Nat, k ≤ 4 ∧ i = .int .i64 k ∧ m = .int .u32 ((n / 256 ^ k : Nat) : Int) ∧ a = .string (strOf (lowB k n)) ∧ Below w.heap.size w wr) (fun _ _ i _ => 4 - (intOf i).toNat)
 case atStart => exact ⟨0, by omega, rfl, by simp, by rw [← h0.out], Below.refl _ _⟩
 case round =>
  obtain ⟨k, hk, rfl, rfl, rfl, hbel⟩ := hrel
  have hB := hbel.size
  by_cases hlt : k < 4
  ·have hsn := Lib.hid (lowB_snoc k n)
   have hl := lowB_len k n
   obtain ⟨m, hm⟩ : ∃ m, m = n / 256 ^ k := ⟨_, rfl⟩
   have hmn : m ≤ n := by rw [hm]; exact Nat.div_le_self _ _
   rw [← hm]
   have hnx := Lib.hid (show n / 256 ^ (k + 1) = m / 256 by rw [hm, Nat.div_div_eq_div_mul, Nat.pow_succ])
   have HM := Lib.hid hm
   clear hm
   have hsz : (strOf (lowB k n)).size = k := by rw [strOf_len (lowB k n), hl]
   obtain ⟨T, hT⟩ : ∃ T, T = strOf (lowB k n) := ⟨_, rfl⟩
   rw [← hT] at hsz ⊢
   have HT := Lib.hid hT
   clear hT
   go_wp2_with fail
   rw [string_new wr 69 5 9 5 _ [UInt8.ofNat (m % 256)] 1 (by simp [byteV]) rfl Tryz.underlying69 Tryz.underlying5 Tryz.underlying9]
   have h1 : (strOf [UInt8.ofNat (m % 256)]).size = 1 := rfl
   generalize hF : strOf [UInt8.ofNat (m % 256)] = F at *
   have HF := Lib.hid hF
   clear hF
   have hcat : T.size + F.size ≤ 9223372036854775807 := by omega
   go_wp2_with fail
   go_roundw
   case rel => exact ⟨k + 1, by omega, by go_num, valI (by rw [hnx.out]; omega), by rw [hsn.out, strOf_add, ← HF.out, HM.out, ← HM.out, HT.out], hbel.alloc hB _⟩
   case measure => simp [intOf]; omega
  ·obtain rfl : k = 4 := by omega
   go_wp2_with fail
   go_ret
   exact ⟨rfl, hbel⟩

end Go.Proofs.YtfefpcdgflgaeaaGreatDoor
end

section
namespace Go.Proofs.YtfefpcdgflgaeaaGreatDoor
set_option linter.unusedSimpArgs false
set_option linter.unusedVariables false
open Go.RowKit As Go.Maps
def markN (n t : Nat) : Nat := if t = 0 then n else n + 1
theorem w_u64 {n : Nat} (h : n ≤ 1000000000) : IntKind.u64.wrap (n : Int) = (n : Int) := by rw [IntKind.wrap_u64]; omega
def pmV (Z : PLoc) (s : Rst) (N : Nat) (PM F PT PF Cc : ByteArray) (g : Nat) : Nat → Value
 | 0 => .pointer (some ⟨Z.r, 0, none⟩)
 | 1 => .pointer (some ⟨Z.r, 0, none⟩)
 | 2 => .pointer (some ⟨Z.r, 7, none⟩)
 | 3 => .int .i64 (s.mks : Int)
 | 4 => .int .u64 (s.mks : Int)
 | 5 => .string PM
 | 6 => .string (Cc ++ PM)
 | 7 => .int .u32 (N : Int)
 | 8 => .int .u8 (IntKind.u8.wrap (N : Int))
 | 9 => .int .u32 (N : Int)
 | 10 => .int .u32 ((N : Int) / 256)
 | 11 => .int .u8 (IntKind.u8.wrap ((N : Int) / 256))
 | 12 => .int .u32 (N : Int)
 | 13 => .int .u32 ((N : Int) / 65536)
 | 14 => .int .u8 (IntKind.u8.wrap ((N : Int) / 65536))
 | 15 => .int .u32 (N : Int)
 | 16 => .int .u32 ((N : Int) / 16777216)
 | 17 => .int .u8 (IntKind.u8.wrap ((N : Int) / 16777216))
 | 18 => .slice (some ⟨g, 0, none⟩) 4 4
 | 19 => .string F
 | 20 => .string (Cc ++ PM ++ F)
 | 21 => .pointer (some ⟨Z.r, 0, none⟩)
 | 22 => .pointer (some ⟨Z.r, 0, none⟩)
 | 23 => .pointer (some ⟨Z.r, 2, none⟩)
 | 24 => .int .i64 (s.tot : Int)
 | 25 => .int .u64 (s.tot : Int)
 | 26 => .string PT
 | 27 => .string (Cc ++ PM ++ F ++ PT)
 | 28 => .pointer (some ⟨Z.r, 0, none⟩)
 | 29 => .pointer (some ⟨Z.r, 0, none⟩)
 | 30 => .pointer (some ⟨Z.r, 6, none⟩)
 | 31 => .int .i64 (s.sf : Int)
 | 32 => .int .u64 (s.sf : Int)
 | 33 => .string PF
 | 34 => .string (Cc ++ PM ++ F ++ PT ++ PF)
 | 35 => .string (Cc ++ PM ++ F ++ PT ++ PF)
 | _ => undef
def pnV (Z : PLoc) (s : Rst) (q : Nat) (BB ZZ : ByteArray) (g : Unit) : Nat → Value
 | 0 => .pointer (some ⟨Z.r, 0, none⟩)
 | 1 => .pointer (some ⟨Z.r, 0, none⟩)
 | 2 => .pointer (some ⟨Z.r, 0, none⟩)
 | 3 => .pointer (some ⟨Z.d, 0, none⟩)
 | 4 => .pointer (some ⟨Z.r, 0, none⟩)
 | 5 => .pointer (some ⟨Z.r, 0, none⟩)
 | 6 => .pointer (some ⟨Z.r, 7, none⟩)
 | 7 => .int .i64 (s.mks : Int)
 | 8 => .int .i64 (q : Int)
 | 9 => .string BB
 | 10 => .string ZZ
 | 11 => .nilIface
 | _ => undef
set_option maxHeartbeats 2000000 in
set_option maxRecDepth 100000 in
theorem pmark_any {w : World} {E : Nat} {Z : PLoc} {s : Rst} (h : PR w E Z s) (hE : E + 1 ≤ 1000000) :
  Calls Tryz.prog 15 #[.pointer (some ⟨Z.r, 0, none⟩)] w fun e w' => e = .returned (.tuple #[]) ∧ PR w' (E + 1) { Z with n := markN Z.n s.tot } s.mark ∧ Turned Z.foot w w' := by
 have c2 := h.cell 2 rfl
 by_cases h0 : s.tot = 0
 ·have t0 : ((s.tot : Int) == 0) = true := by rw [h0]; rfl
  have e1 := Lib.hid (show s.mark = s by unfold Rst.mark; rw [if_pos h0])
  have e2 := Lib.hid (show markN Z.n s.tot = Z.n by unfold markN; rw [if_pos h0])
  have h' := h.more (K' := E + 1) (by omega) hE
  clear h0
  go_enter Tryz.func15, Tryz.ntmps15
  go_wp2
  refine bodyPost_ret (results_none rfl _ _ _) rfl ?_
  rw [e1.out, e2.out]
  exact ⟨rfl, h', .refl _ _⟩
 have t0 : ((s.tot : Int) == 0) = false := beq_eq_false_iff_ne.2 (by omega)
 have HE := Lib.hid (show { s with X := upd s.X (s.mks % 2) (recS s.mks s.nm s.tot s.sf), mks := s.mks + 1 } = s.mark by unfold Rst.mark; rw [if_neg h0])
 have e2 := Lib.hid (show markN Z.n s.tot = Z.n + 1 by unfold markN; rw [if_neg h0])
 have HFM := Lib.hid (h.fit.mark hE)
 have c0 := h.cell 0 rfl
 have c1 := h.cell 1 rfl
 have lm := h.fit.mks
 have lk := h.fit.k
 have lt := h.fit.tot
 have lf : s.sf ≤ 4096 := Nat.le_trans h.fit.sf (Nat.le_trans h.fit.sv_le lt)
 have ln := h.fit.nm
 have hEE : s.mks ≤ 1000000 := by omega
 have UM := w_u64 (n := s.mks) (by omega)
 have UT := w_u64 (n := s.tot) (by omega)
 have UF := w_u64 (n := s.sf) (by omega)
 have lPM := vput_le3 hEE
 have lPT := vput_le2 lt
 have lPF := vput_le2 lf
 rw [← strOf_size] at lPM lPT lPF
 obtain ⟨N, hN⟩ : ∃ N, N = s.nm := ⟨_, rfl⟩
 have lF := four_size N
 obtain ⟨PM, hPM⟩ : ∃ x, x = strOf (vput s.mks) := ⟨_, rfl⟩
 obtain ⟨PT, hPT⟩ : ∃ x, x = strOf (vput s.tot) := ⟨_, rfl⟩
 obtain ⟨PF, hPF⟩ : ∃ x, x = strOf (vput s.sf) := ⟨_, rfl⟩
 obtain ⟨F, hF⟩ : ∃ x, x = four N := ⟨_, rfl⟩
 obtain ⟨Cc, hC0⟩ : ∃ x, x = strOf [82] := ⟨_, rfl⟩
 have lC : Cc.size = 1 := hC0 ▸ rfl
 have hC82 : (⟨#[82]⟩ : ByteArray) = Cc := by rw [hC0]
 rw [← hPM] at lPM
 rw [← hPT] at lPT
 rw [← hPF] at lPF
 rw [← hF] at lF
 rw [← hN] at c1
 have z1 : ¬ 9223372036854775807 < Cc.size + PM.size := by omega
 have z2 : ¬ 9223372036854775807 < (Cc ++ PM).size + F.size := by rw [ByteArray.size_append]; omega
 have z3 : ¬ 9223372036854775807 < (Cc ++ PM ++ F).size + PT.size := by rw [ByteArray.size_append, ByteArray.size_append]; omega
 have z4 : ¬ 9223372036854775807 < (Cc ++ PM ++ F ++ PT).size + PF.size := by rw [ByteArray.size_append, ByteArray.size_append, ByteArray.size_append]; omega
 have HBs0 := Lib.hid (show (Cc ++ PM ++ F ++ PT ++ PF).size ≤ 1000 by rw [ByteArray.size_append, ByteArray.size_append, ByteArray.size_append, ByteArray.size_append]; omega)
 simp only [ByteArray.size_append] at z2 z3 z4
 have HB0 := Lib.hid (show Cc ++ PM ++ F ++ PT ++ PF = recB s.mks s.nm s.tot s.sf by unfold recB; rw [hC0, hPM, hF, hPT, hPF, hN])
 have HPM := Lib.hid hPM
 have HPT := Lib.hid hPT
 have HPF := Lib.hid hPF
 have HF := Lib.hid hF
 have HN0 := Lib.hid hN
 clear hPM hPT hPF hF hC0 hN h0
 go_enter Tryz.func15, Tryz.ntmps15
 go_wp2
 refine Flow.wp_region_go (by kernel_rfl) (by kernel_rfl) (by kernel_rfl) 67 rfl (by kernel_rfl) (pmV Z s N PM F PT PF Cc) (fun g L wz => CI w N g (L 18) wz) (fun _ _ => False) (0) (⟨(Below.refl _ _).drew, fun h => (by cases h)⟩) ⟨?_, ?_, ?_, ?_, ?_, ?_, ?_, ?_, ?_, ?_, ?_, ?_, ?_, ?_, ?_, ?_, ?_, ?_, ?_, ?_, ?_, ?_, ?_, ?_, ?_, ?_, ?_, ?_, ?_, ?_, ?_, ?_, ?_, ?_, ?_, ?_, trivial⟩ ?_ ?_
 ·intro g L wz K ρ hc0 hf0 hF hO hU hcl hi hd hC hK
  have e0 : ρ (.tmp 0) = .pointer (some ⟨Z.r, 0, none⟩) := hO 0 (by kernel_rfl)
  simp [go_sem, Flow.ylP_value, Flow.ylP_skip, Flow.ylP_enter, Flow.ylP_panic, hc0, hf0, e0]
  exact hK g wz hC (fun _ _ => rfl)
 ·intro g L wz K ρ hc0 hf0 hF hO hU hcl hi hd hC hK
  have d0 : L 0 = true := hd ⟨0, .data⟩ (by simp) rfl
  have e13 : ρ (.tmp 13) = .pointer (some ⟨Z.r, 0, none⟩) := hF 13 0 (by kernel_rfl) d0
  simp [go_sem, Flow.ylP_value, Flow.ylP_skip, Flow.ylP_enter, Flow.ylP_panic, hc0, hf0, e13]
  exact hK g wz hC (fun _ _ => rfl)
 ·intro g L wz K ρ hc0 hf0 hF hO hU hcl hi hd hC hK
  have d1 : L 1 = true := hd ⟨1, .data⟩ (by simp) rfl
  have e14 : ρ (.tmp 14) = .pointer (some ⟨Z.r, 0, none⟩) := hF 14 1 (by kernel_rfl) d1
  simp [go_sem, Flow.ylP_value, Flow.ylP_skip, Flow.ylP_enter, Flow.ylP_panic, hc0, hf0, e14]
  exact hK g wz hC (fun _ _ => rfl)
 ·intro g L wz K ρ hc0 hf0 hF hO hU hcl hi hd hC hK
  have d2 : L 2 = true := hd ⟨2, .data⟩ (by simp) rfl
  have e15 : ρ (.tmp 15) = .pointer (some ⟨Z.r, 7, none⟩) := hF 15 2 (by kernel_rfl) d2
  have cc := (h.below hC.bel).cell 7 rfl
  simp [go_sem, Flow.ylP_value, Flow.ylP_skip, Flow.ylP_enter, Flow.ylP_panic, hc0, hf0, e15, cc]
  exact hK g wz hC (fun _ _ => rfl)
 ·intro g L wz K ρ hc0 hf0 hF hO hU hcl hi hd hC hK
  have d3 : L 3 = true := hd ⟨3, .data⟩ (by simp) rfl
  have e16 : ρ (.tmp 16) = .int .i64 (s.mks : Int) := hF 16 3 (by kernel_rfl) d3
  simp [go_sem, Flow.ylP_value, Flow.ylP_skip, Flow.ylP_enter, Flow.ylP_panic, hc0, hf0, e16, UM]
  exact hK g wz hC (fun _ _ => rfl)
 ·intro g L wz K ρ hc0 hf0 hF hO hU hcl hi hd hC hK
  have d4 : L 4 = true := hd ⟨4, .data⟩ (by simp) rfl
  have e17 : ρ (.tmp 17) = .int .u64 (s.mks : Int) := hF 17 4 (by kernel_rfl) d4
  simp [go_sem, Flow.ylP_value, Flow.ylP_skip, Flow.ylP_enter, Flow.ylP_panic, hc0, hf0, e17]
  refine (vput_any s.mks _ (by omega)).mono ?_
  rintro r wn ⟨rfl, hbn⟩
  rw [show (⟨(vput s.mks).toArray⟩ : ByteArray) = PM from HPM.out.symm]
  exact ⟨_, rfl, hK g wn (hC.grow hbn) (by intro j hj; unfold pmV; split <;> first | rfl | (rw [hi] at hj; cases hj) | (have hz := hcl _ 5 (by kernel_rfl) hj; rw [hi] at hz; cases hz))⟩
 ·intro g L wz K ρ hc0 hf0 hF hO hU hcl hi hd hC hK
  have d5 : L 5 = true := hd ⟨5, .data⟩ (by simp) rfl
  have e18 : ρ (.tmp 18) = .string PM := hF 18 5 (by kernel_rfl) d5
  simp [go_sem, Flow.ylP_value, Flow.ylP_skip, Flow.ylP_enter, Flow.ylP_panic, hc0, hf0, e18, hC82, z1]
  exact hK g wz hC (fun _ _ => rfl)
 ·intro g L wz K ρ hc0 hf0 hF hO hU hcl hi hd hC hK
  have e2 : ρ (.tmp 2) = .int .u32 (N : Int) := hO 2 (by kernel_rfl)
  simp [go_sem, Flow.ylP_value, Flow.ylP_skip, Flow.ylP_enter, Flow.ylP_panic, hc0, hf0, e2]
  exact hK g wz hC (fun _ _ => rfl)
 ·intro g L wz K ρ hc0 hf0 hF hO hU hcl hi hd hC hK
  have d7 : L 7 = true := hd ⟨7, .data⟩ (by simp) rfl
  have e20 : ρ (.tmp 20) = .int .u32 (N : Int) := hF 20 7 (by kernel_rfl) d7
  simp [go_sem, Flow.ylP_value, Flow.ylP_skip, Flow.ylP_enter, Flow.ylP_panic, hc0, hf0, e20]
  exact hK g wz hC (fun _ _ => rfl)
 ·intro g L wz K ρ hc0 hf0 hF hO hU hcl hi hd hC hK
  have e2 : ρ (.tmp 2) = .int .u32 (N : Int) := hO 2 (by kernel_rfl)
  simp [go_sem, Flow.ylP_value, Flow.ylP_skip, Flow.ylP_enter, Flow.ylP_panic, hc0, hf0, e2]
  exact hK g wz hC (fun _ _ => rfl)
 ·intro g L wz K ρ hc0 hf0 hF hO hU hcl hi hd hC hK
  have d9 : L 9 = true := hd ⟨9, .data⟩ (by simp) rfl
  have e22 : ρ (.tmp 22) = .int .u32 (N : Int) := hF 22 9 (by kernel_rfl) d9
  simp [go_sem, Flow.ylP_value, Flow.ylP_skip, Flow.ylP_enter, Flow.ylP_panic, hc0, hf0, e22]
  exact hK g wz hC (fun _ _ => rfl)
 ·intro g L wz K ρ hc0 hf0 hF hO hU hcl hi hd hC hK
  have d10 : L 10 = true := hd ⟨10, .data⟩ (by simp) rfl
  have e23 : ρ (.tmp 23) = .int .u32 ((N : Int) / 256) := hF 23 10 (by kernel_rfl) d10
  simp [go_sem, Flow.ylP_value, Flow.ylP_skip, Flow.ylP_enter, Flow.ylP_panic, hc0, hf0, e23]
  exact hK g wz hC (fun _ _ => rfl)
 ·intro g L wz K ρ hc0 hf0 hF hO hU hcl hi hd hC hK
  have e2 : ρ (.tmp 2) = .int .u32 (N : Int) := hO 2 (by kernel_rfl)
  simp [go_sem, Flow.ylP_value, Flow.ylP_skip, Flow.ylP_enter, Flow.ylP_panic, hc0, hf0, e2]
  exact hK g wz hC (fun _ _ => rfl)
 ·intro g L wz K ρ hc0 hf0 hF hO hU hcl hi hd hC hK
  have d12 : L 12 = true := hd ⟨12, .data⟩ (by simp) rfl
  have e25 : ρ (.tmp 25) = .int .u32 (N : Int) := hF 25 12 (by kernel_rfl) d12
  simp [go_sem, Flow.ylP_value, Flow.ylP_skip, Flow.ylP_enter, Flow.ylP_panic, hc0, hf0, e25]
  exact hK g wz hC (fun _ _ => rfl)
 ·intro g L wz K ρ hc0 hf0 hF hO hU hcl hi hd hC hK
  have d13 : L 13 = true := hd ⟨13, .data⟩ (by simp) rfl
  have e26 : ρ (.tmp 26) = .int .u32 ((N : Int) / 65536) := hF 26 13 (by kernel_rfl) d13
  simp [go_sem, Flow.ylP_value, Flow.ylP_skip, Flow.ylP_enter, Flow.ylP_panic, hc0, hf0, e26]
  exact hK g wz hC (fun _ _ => rfl)
 ·intro g L wz K ρ hc0 hf0 hF hO hU hcl hi hd hC hK
  have e2 : ρ (.tmp 2) = .int .u32 (N : Int) := hO 2 (by kernel_rfl)
  simp [go_sem, Flow.ylP_value, Flow.ylP_skip, Flow.ylP_enter, Flow.ylP_panic, hc0, hf0, e2]
  exact hK g wz hC (fun _ _ => rfl)
 ·intro g L wz K ρ hc0 hf0 hF hO hU hcl hi hd hC hK
  have d15 : L 15 = true := hd ⟨15, .data⟩ (by simp) rfl
  have e28 : ρ (.tmp 28) = .int .u32 (N : Int) := hF 28 15 (by kernel_rfl) d15
  simp [go_sem, Flow.ylP_value, Flow.ylP_skip, Flow.ylP_enter, Flow.ylP_panic, hc0, hf0, e28]
  exact hK g wz hC (fun _ _ => rfl)
 ·intro g L wz K ρ hc0 hf0 hF hO hU hcl hi hd hC hK
  have d16 : L 16 = true := hd ⟨16, .data⟩ (by simp) rfl
  have e29 : ρ (.tmp 29) = .int .u32 ((N : Int) / 16777216) := hF 29 16 (by kernel_rfl) d16
  simp [go_sem, Flow.ylP_value, Flow.ylP_skip, Flow.ylP_enter, Flow.ylP_panic, hc0, hf0, e29]
  exact hK g wz hC (fun _ _ => rfl)
 ·intro g L wz K ρ hc0 hf0 hF hO hU hcl hi hd hC hK
  have d8 : L 8 = true := hd ⟨8, .data⟩ (by simp) rfl
  have e21 : ρ (.tmp 21) = .int .u8 (IntKind.u8.wrap (N : Int)) := hF 21 8 (by kernel_rfl) d8
  have d11 : L 11 = true := hd ⟨11, .data⟩ (by simp) rfl
  have e24 : ρ (.tmp 24) = .int .u8 (IntKind.u8.wrap ((N : Int) / 256)) := hF 24 11 (by kernel_rfl) d11
  have d14 : L 14 = true := hd ⟨14, .data⟩ (by simp) rfl
  have e27 : ρ (.tmp 27) = .int .u8 (IntKind.u8.wrap ((N : Int) / 65536)) := hF 27 14 (by kernel_rfl) d14
  have d17 : L 17 = true := hd ⟨17, .data⟩ (by simp) rfl
  have e30 : ρ (.tmp 30) = .int .u8 (IntKind.u8.wrap ((N : Int) / 16777216)) := hF 30 17 (by kernel_rfl) d17
  simp [go_sem, Flow.ylP_value, Flow.ylP_skip, Flow.ylP_enter, Flow.ylP_panic, hc0, hf0, e21, e24, e27, e30]
  have h19 : L 19 = false := by cases h : L 19 with | false => rfl | true => (have := hcl 19 18 (by kernel_rfl) h; rw [hi] at this; cases this)
  refine hK wz.heap.size _ ?_ (by intro j hj; unfold pmV; split <;> first | rfl | (rw [hi] at hj; cases hj) | (have hz := hcl _ 18 (by kernel_rfl) hj; rw [hi] at hz; cases hz))
  exact hC.build (four_cells N)
 ·intro g L wz K ρ hc0 hf0 hF hO hU hcl hi hd hC hK
  have d18 : L 18 = true := hd ⟨18, .data⟩ (by simp) rfl
  have e31 : ρ (.tmp 31) = .slice (some ⟨g, 0, none⟩) 4 4 := hF 31 18 (by kernel_rfl) d18
  have hcv := hC.str d18 (P := Tryz.prog) 69 5 9 Tryz.underlying69 Tryz.underlying5 Tryz.underlying9
  rw [show four N = F from HF.out.symm] at hcv
  unfold execOp
  simp only [resolve, Sem.run_bind, Sem.run_pure, Result.andThen_ok, e31, hcv]
  exact hK g wz hC (fun _ _ => rfl)
 ·intro g L wz K ρ hc0 hf0 hF hO hU hcl hi hd hC hK
  have d6 : L 6 = true := hd ⟨6, .data⟩ (by simp) rfl
  have e19 : ρ (.tmp 19) = .string (Cc ++ PM) := hF 19 6 (by kernel_rfl) d6
  have d19 : L 19 = true := hd ⟨19, .data⟩ (by simp) rfl
  have e32 : ρ (.tmp 32) = .string F := hF 32 19 (by kernel_rfl) d19
  simp [go_sem, Flow.ylP_value, Flow.ylP_skip, Flow.ylP_enter, Flow.ylP_panic, hc0, hf0, e19, e32, z2]
  exact hK g wz hC (fun _ _ => rfl)
 ·intro g L wz K ρ hc0 hf0 hF hO hU hcl hi hd hC hK
  have e0 : ρ (.tmp 0) = .pointer (some ⟨Z.r, 0, none⟩) := hO 0 (by kernel_rfl)
  simp [go_sem, Flow.ylP_value, Flow.ylP_skip, Flow.ylP_enter, Flow.ylP_panic, hc0, hf0, e0]
  exact hK g wz hC (fun _ _ => rfl)
 ·intro g L wz K ρ hc0 hf0 hF hO hU hcl hi hd hC hK
  have d21 : L 21 = true := hd ⟨21, .data⟩ (by simp) rfl
  have e34 : ρ (.tmp 34) = .pointer (some ⟨Z.r, 0, none⟩) := hF 34 21 (by kernel_rfl) d21
  simp [go_sem, Flow.ylP_value, Flow.ylP_skip, Flow.ylP_enter, Flow.ylP_panic, hc0, hf0, e34]
  exact hK g wz hC (fun _ _ => rfl)
 ·intro g L wz K ρ hc0 hf0 hF hO hU hcl hi hd hC hK
  have d22 : L 22 = true := hd ⟨22, .data⟩ (by simp) rfl
  have e35 : ρ (.tmp 35) = .pointer (some ⟨Z.r, 0, none⟩) := hF 35 22 (by kernel_rfl) d22
  simp [go_sem, Flow.ylP_value, Flow.ylP_skip, Flow.ylP_enter, Flow.ylP_panic, hc0, hf0, e35]
  exact hK g wz hC (fun _ _ => rfl)
 ·intro g L wz K ρ hc0 hf0 hF hO hU hcl hi hd hC hK
  have d23 : L 23 = true := hd ⟨23, .data⟩ (by simp) rfl
  have e36 : ρ (.tmp 36) = .pointer (some ⟨Z.r, 2, none⟩) := hF 36 23 (by kernel_rfl) d23
  have cc := (h.below hC.bel).cell 2 rfl
  simp [go_sem, Flow.ylP_value, Flow.ylP_skip, Flow.ylP_enter, Flow.ylP_panic, hc0, hf0, e36, cc]
  exact hK g wz hC (fun _ _ => rfl)
 ·intro g L wz K ρ hc0 hf0 hF hO hU hcl hi hd hC hK
  have d24 : L 24 = true := hd ⟨24, .data⟩ (by simp) rfl
  have e37 : ρ (.tmp 37) = .int .i64 (s.tot : Int) := hF 37 24 (by kernel_rfl) d24
  simp [go_sem, Flow.ylP_value, Flow.ylP_skip, Flow.ylP_enter, Flow.ylP_panic, hc0, hf0, e37, UT]
  exact hK g wz hC (fun _ _ => rfl)
 ·intro g L wz K ρ hc0 hf0 hF hO hU hcl hi hd hC hK
  have d25 : L 25 = true := hd ⟨25, .data⟩ (by simp) rfl
  have e38 : ρ (.tmp 38) = .int .u64 (s.tot : Int) := hF 38 25 (by kernel_rfl) d25
  simp [go_sem, Flow.ylP_value, Flow.ylP_skip, Flow.ylP_enter, Flow.ylP_panic, hc0, hf0, e38]
  refine (vput_any s.tot _ (by omega)).mono ?_
  rintro r wn ⟨rfl, hbn⟩
  rw [show (⟨(vput s.tot).toArray⟩ : ByteArray) = PT from HPT.out.symm]
  exact ⟨_, rfl, hK g wn (hC.grow hbn) (by intro j hj; unfold pmV; split <;> first | rfl | (rw [hi] at hj; cases hj) | (have hz := hcl _ 26 (by kernel_rfl) hj; rw [hi] at hz; cases hz))⟩
 ·intro g L wz K ρ hc0 hf0 hF hO hU hcl hi hd hC hK
  have d20 : L 20 = true := hd ⟨20, .data⟩ (by simp) rfl
  have e33 : ρ (.tmp 33) = .string (Cc ++ PM ++ F) := hF 33 20 (by kernel_rfl) d20
  have d26 : L 26 = true := hd ⟨26, .data⟩ (by simp) rfl
  have e39 : ρ (.tmp 39) = .string PT := hF 39 26 (by kernel_rfl) d26
  simp [go_sem, Flow.ylP_value, Flow.ylP_skip, Flow.ylP_enter, Flow.ylP_panic, hc0, hf0, e33, e39, z3]
  exact hK g wz hC (fun _ _ => rfl)
 ·intro g L wz K ρ hc0 hf0 hF hO hU hcl hi hd hC hK
  have e0 : ρ (.tmp 0) = .pointer (some ⟨Z.r, 0, none⟩) := hO 0 (by kernel_rfl)
  simp [go_sem, Flow.ylP_value, Flow.ylP_skip, Flow.ylP_enter, Flow.ylP_panic, hc0, hf0, e0]
  exact hK g wz hC (fun _ _ => rfl)
 ·intro g L wz K ρ hc0 hf0 hF hO hU hcl hi hd hC hK
  have d28 : L 28 = true := hd ⟨28, .data⟩ (by simp) rfl
  have e41 : ρ (.tmp 41) = .pointer (some ⟨Z.r, 0, none⟩) := hF 41 28 (by kernel_rfl) d28
  simp [go_sem, Flow.ylP_value, Flow.ylP_skip, Flow.ylP_enter, Flow.ylP_panic, hc0, hf0, e41]
  exact hK g wz hC (fun _ _ => rfl)
 ·intro g L wz K ρ hc0 hf0 hF hO hU hcl hi hd hC hK
  have d29 : L 29 = true := hd ⟨29, .data⟩ (by simp) rfl
  have e42 : ρ (.tmp 42) = .pointer (some ⟨Z.r, 0, none⟩) := hF 42 29 (by kernel_rfl) d29
  simp [go_sem, Flow.ylP_value, Flow.ylP_skip, Flow.ylP_enter, Flow.ylP_panic, hc0, hf0, e42]
  exact hK g wz hC (fun _ _ => rfl)
 ·intro g L wz K ρ hc0 hf0 hF hO hU hcl hi hd hC hK
  have d30 : L 30 = true := hd ⟨30, .data⟩ (by simp) rfl
  have e43 : ρ (.tmp 43) = .pointer (some ⟨Z.r, 6, none⟩) := hF 43 30 (by kernel_rfl) d30
  have cc := (h.below hC.bel).cell 6 rfl
  simp [go_sem, Flow.ylP_value, Flow.ylP_skip, Flow.ylP_enter, Flow.ylP_panic, hc0, hf0, e43, cc]
  exact hK g wz hC (fun _ _ => rfl)
 ·intro g L wz K ρ hc0 hf0 hF hO hU hcl hi hd hC hK
  have d31 : L 31 = true := hd ⟨31, .data⟩ (by simp) rfl
  have e44 : ρ (.tmp 44) = .int .i64 (s.sf : Int) := hF 44 31 (by kernel_rfl) d31
  simp [go_sem, Flow.ylP_value, Flow.ylP_skip, Flow.ylP_enter, Flow.ylP_panic, hc0, hf0, e44, UF]
  exact hK g wz hC (fun _ _ => rfl)
 ·intro g L wz K ρ hc0 hf0 hF hO hU hcl hi hd hC hK
  have d32 : L 32 = true := hd ⟨32, .data⟩ (by simp) rfl
  have e45 : ρ (.tmp 45) = .int .u64 (s.sf : Int) := hF 45 32 (by kernel_rfl) d32
  simp [go_sem, Flow.ylP_value, Flow.ylP_skip, Flow.ylP_enter, Flow.ylP_panic, hc0, hf0, e45]
  refine (vput_any s.sf _ (by omega)).mono ?_
  rintro r wn ⟨rfl, hbn⟩
  rw [show (⟨(vput s.sf).toArray⟩ : ByteArray) = PF from HPF.out.symm]
  exact ⟨_, rfl, hK g wn (hC.grow hbn) (by intro j hj; unfold pmV; split <;> first | rfl | (rw [hi] at hj; cases hj) | (have hz := hcl _ 33 (by kernel_rfl) hj; rw [hi] at hz; cases hz))⟩
 ·intro g L wz K ρ hc0 hf0 hF hO hU hcl hi hd hC hK
  have d27 : L 27 = true := hd ⟨27, .data⟩ (by simp) rfl
  have e40 : ρ (.tmp 40) = .string (Cc ++ PM ++ F ++ PT) := hF 40 27 (by kernel_rfl) d27
  have d33 : L 33 = true := hd ⟨33, .data⟩ (by simp) rfl
  have e46 : ρ (.tmp 46) = .string PF := hF 46 33 (by kernel_rfl) d33
  simp [go_sem, Flow.ylP_value, Flow.ylP_skip, Flow.ylP_enter, Flow.ylP_panic, hc0, hf0, e40, e46, z4]
  exact hK g wz hC (fun _ _ => rfl)
 ·intro g L wz K ρ hc0 hf0 hF hO hU hcl hi hd hC hK
  have d34 : L 34 = true := hd ⟨34, .data⟩ (by simp) rfl
  have e47 : ρ (.tmp 47) = .string (Cc ++ PM ++ F ++ PT ++ PF) := hF 47 34 (by kernel_rfl) d34
  simp [go_sem, Flow.ylP_value, Flow.ylP_skip, Flow.ylP_enter, Flow.ylP_panic, hc0, hf0, e47]
  exact hK g wz hC (fun _ _ => rfl)
 ·intro g L ch wz h; exact h.elim
 ·intro g L wz hL hC
  have hb1 := hC.bel
  clear hC
  simp only [Flow.putAll, pmV]
  simp [Act.put]
  have h1 := h.below hb1
  clear c0 c1 c2 h
  generalize hBB : Cc ++ PM ++ F ++ PT ++ PF = BB at *
  generalize wz = w1 at *
  obtain ⟨q, hq0⟩ : ∃ q, q = s.mks % 2 := ⟨_, rfl⟩
  have hq : (s.mks : Int) % 2 = (q : Int) := by omega
  have hq2 : Int.tmod (s.mks : Int) 2 = (q : Int) := by rw [Int.tmod_eq_emod_of_nonneg (by omega)]; exact hq
  have c0 := h1.cell 0 rfl
  have c7 := h1.cell 7 rfl
  have HN := Lib.hid h1.off.1
  obtain ⟨ZZ, hZZ⟩ : ∃ x, x = sealOf BB := ⟨_, rfl⟩
  have HZ := Lib.hid hZZ
  have HBs : Hid (BB.size ≤ 1000000) := Lib.hid (by have := HBs0.out; omega)
  have HRec := Lib.hid (show padz ZZ = recS s.mks s.nm s.tot s.sf by rw [hZZ, HB0.out]; rfl)
  have hz32 : ZZ.size ≤ 32 := by rw [hZZ, HB0.out]; exact recS_size hEE lt lf
  have HZs : Hid (ZZ.size ≤ 1000000) := Lib.hid (by omega)
  have HL : Hid (Z.n < maxLen) := Lib.hid (by have := h1.cnt; unfold maxLen; omega)
  have E1 := Lib.hid (show dwErr 140 (q : Int) ZZ = 0 by unfold dwErr; rw [if_neg (by omega), if_neg (by omega)])
  have E2 := Lib.hid (show dwX 140 s.X (q : Int) ZZ = upd s.X q (padz ZZ) by unfold dwX; rw [if_pos E1.out]; rfl)
  have h1' := h1.more (K' := E + 1) (by omega) hE
  have HFM' : Hid (RFit (E + 1) { s with X := upd s.X q (padz ZZ) }) := Lib.hid (by have := HFM.out; rw [← HE.out] at this; rw [HRec.out, hq0]; exact ⟨this.d, this.nm, this.tot, this.out, this.sv, this.sf, Nat.le_of_succ_le this.mks, this.k, this.rs, this.rx⟩)
  have HCNT : Hid (Z.n + 1 ≤ 200 * (E + 1)) := Lib.hid (by have := h1.cnt; omega)
  have HS : Hid (({ s with X := upd s.X q (padz ZZ), mks := s.mks + 1 } : Rst) = s.mark) := Lib.hid (by rw [← HE.out, HRec.out, hq0])
  have WM := Lib.hid (w_in ((s.mks : Int) + 1) (s.mks + 1) (by omega) (by omega))
  have hq140 : q < 2 := by omega
  clear h1 hq0 hZZ hz32 z1 z2 z3 z4 lPM lPT lPF lF lC UM UT UF HPM HPT HPF HB0 HN0 HE
  have h1 := h1'
  clear h1'
  go_wp2
  refine Flow.wp_region_go (by kernel_rfl) (by kernel_rfl) (by kernel_rfl) 67 rfl (by kernel_rfl) (pnV Z s q BB ZZ) (fun _ L wz => PD wz Z.d Z.R Z.M 140 Z.c (cond (L 11) (Z.n + 1) Z.n) s.S (cond (L 11) (upd s.X q (padz ZZ)) s.X) ∧ Turned (PFoot Z.R Z.M) w1 wz) (fun _ _ => False) (()) (⟨h1.disk.below (Below.refl _ _).drew, .of_below (Below.refl _ _).drew⟩) ⟨?_, ?_, ?_, ?_, ?_, ?_, ?_, ?_, ?_, ?_, ?_, ?_, trivial⟩ ?_ ?_
  ·intro g L wz K ρ hc0 hf0 hF hO hU hcl hi hd hC hK
   have e0 : ρ (.tmp 0) = .pointer (some ⟨Z.r, 0, none⟩) := hO 0 (by kernel_rfl)
   simp [go_sem, Flow.ylP_value, Flow.ylP_skip, Flow.ylP_enter, Flow.ylP_panic, hc0, hf0, e0]
   exact hK g wz hC (fun _ _ => rfl)
  ·intro g L wz K ρ hc0 hf0 hF hO hU hcl hi hd hC hK
   have d0 : L 0 = true := hd ⟨0, .data⟩ (by simp) rfl
   have e48 : ρ (.tmp 48) = .pointer (some ⟨Z.r, 0, none⟩) := hF 48 0 (by kernel_rfl) d0
   simp [go_sem, Flow.ylP_value, Flow.ylP_skip, Flow.ylP_enter, Flow.ylP_panic, hc0, hf0, e48]
   exact hK g wz hC (fun _ _ => rfl)
  ·intro g L wz K ρ hc0 hf0 hF hO hU hcl hi hd hC hK
   have d1 : L 1 = true := hd ⟨1, .data⟩ (by simp) rfl
   have e49 : ρ (.tmp 49) = .pointer (some ⟨Z.r, 0, none⟩) := hF 49 1 (by kernel_rfl) d1
   simp [go_sem, Flow.ylP_value, Flow.ylP_skip, Flow.ylP_enter, Flow.ylP_panic, hc0, hf0, e49]
   exact hK g wz hC (fun _ _ => rfl)
  ·intro g L wz K ρ hc0 hf0 hF hO hU hcl hi hd hC hK
   have d2 : L 2 = true := hd ⟨2, .data⟩ (by simp) rfl
   have e50 : ρ (.tmp 50) = .pointer (some ⟨Z.r, 0, none⟩) := hF 50 2 (by kernel_rfl) d2
   have cc := hC.2.cell c0 HN.out
   simp [go_sem, Flow.ylP_value, Flow.ylP_skip, Flow.ylP_enter, Flow.ylP_panic, hc0, hf0, e50, cc]
   exact hK g wz hC (fun _ _ => rfl)
  ·intro g L wz K ρ hc0 hf0 hF hO hU hcl hi hd hC hK
   have e0 : ρ (.tmp 0) = .pointer (some ⟨Z.r, 0, none⟩) := hO 0 (by kernel_rfl)
   simp [go_sem, Flow.ylP_value, Flow.ylP_skip, Flow.ylP_enter, Flow.ylP_panic, hc0, hf0, e0]
   exact hK g wz hC (fun _ _ => rfl)
  ·intro g L wz K ρ hc0 hf0 hF hO hU hcl hi hd hC hK
   have d4 : L 4 = true := hd ⟨4, .data⟩ (by simp) rfl
   have e52 : ρ (.tmp 52) = .pointer (some ⟨Z.r, 0, none⟩) := hF 52 4 (by kernel_rfl) d4
   simp [go_sem, Flow.ylP_value, Flow.ylP_skip, Flow.ylP_enter, Flow.ylP_panic, hc0, hf0, e52]
   exact hK g wz hC (fun _ _ => rfl)
  ·intro g L wz K ρ hc0 hf0 hF hO hU hcl hi hd hC hK
   have d5 : L 5 = true := hd ⟨5, .data⟩ (by simp) rfl
   have e53 : ρ (.tmp 53) = .pointer (some ⟨Z.r, 0, none⟩) := hF 53 5 (by kernel_rfl) d5
   simp [go_sem, Flow.ylP_value, Flow.ylP_skip, Flow.ylP_enter, Flow.ylP_panic, hc0, hf0, e53]
   exact hK g wz hC (fun _ _ => rfl)
  ·intro g L wz K ρ hc0 hf0 hF hO hU hcl hi hd hC hK
   have d6 : L 6 = true := hd ⟨6, .data⟩ (by simp) rfl
   have e54 : ρ (.tmp 54) = .pointer (some ⟨Z.r, 7, none⟩) := hF 54 6 (by kernel_rfl) d6
   have cc := hC.2.cell c7 HN.out
   simp [go_sem, Flow.ylP_value, Flow.ylP_skip, Flow.ylP_enter, Flow.ylP_panic, hc0, hf0, e54, cc]
   exact hK g wz hC (fun _ _ => rfl)
  ·intro g L wz K ρ hc0 hf0 hF hO hU hcl hi hd hC hK
   have d7 : L 7 = true := hd ⟨7, .data⟩ (by simp) rfl
   have e55 : ρ (.tmp 55) = .int .i64 (s.mks : Int) := hF 55 7 (by kernel_rfl) d7
   simp [go_sem, Flow.ylP_value, Flow.ylP_skip, Flow.ylP_enter, Flow.ylP_panic, hc0, hf0, e55, hq, hq2]
   exact hK g wz hC (fun _ _ => rfl)
  ·intro g L wz K ρ hc0 hf0 hF hO hU hcl hi hd hC hK
   have e3 : ρ (.tmp 3) = .string BB := hO 3 (by kernel_rfl)
   simp [go_sem, Flow.ylP_value, Flow.ylP_skip, Flow.ylP_enter, Flow.ylP_panic, hc0, hf0, e3]
   exact hK g wz hC (fun _ _ => rfl)
  ·intro g L wz K ρ hc0 hf0 hF hO hU hcl hi hd hC hK
   have d9 : L 9 = true := hd ⟨9, .data⟩ (by simp) rfl
   have e57 : ρ (.tmp 57) = .string BB := hF 57 9 (by kernel_rfl) d9
   simp [go_sem, Flow.ylP_value, Flow.ylP_skip, Flow.ylP_enter, Flow.ylP_panic, hc0, hf0, e57]
   refine (seal_any BB _ HBs.out).mono ?_
   rintro r wn ⟨rfl, hbn⟩
   rw [← HZ.out]
   exact ⟨_, rfl, hK () wn ⟨hC.1.below hbn, hC.2.trans (.of_below hbn)⟩ (by intro j hj; unfold pnV; split <;> first | rfl | (rw [hi] at hj; cases hj) | (have hz := hcl _ 10 (by kernel_rfl) hj; rw [hi] at hz; cases hz))⟩
  ·intro g L wz K ρ hc0 hf0 hF hO hU hcl hi hd hC hK
   have d3 : L 3 = true := hd ⟨3, .data⟩ (by simp) rfl
   have e51 : ρ (.tmp 51) = .pointer (some ⟨Z.d, 0, none⟩) := hF 51 3 (by kernel_rfl) d3
   have d8 : L 8 = true := hd ⟨8, .data⟩ (by simp) rfl
   have e56 : ρ (.tmp 56) = .int .i64 (q : Int) := hF 56 8 (by kernel_rfl) d8
   have d10 : L 10 = true := hd ⟨10, .data⟩ (by simp) rfl
   have e58 : ρ (.tmp 58) = .string ZZ := hF 58 10 (by kernel_rfl) d10
   simp [go_sem, Flow.ylP_value, Flow.ylP_skip, Flow.ylP_enter, Flow.ylP_panic, hc0, hf0, e51, e56, e58]
   simp only [hi, cond_false] at hC
   refine (dwrite_any hC.1 (q : Int) ZZ HZs.out HL.out).mono ?_
   rintro r wn ⟨rfl, hpn, htn⟩
   rw [E1.out]
   rw [E2.out] at hpn
   exact ⟨_, rfl, hK () wn ⟨hpn, hC.2.trans htn⟩ (by intro j hj; unfold pnV; split <;> first | rfl | (rw [hi] at hj; cases hj) | (have hz := hcl _ 11 (by kernel_rfl) hj; rw [hi] at hz; cases hz))⟩
  ·intro g L ch wz h; exact h.elim
  ·intro g L wz hL hC
   rw [hL 11 (by decide)] at hC
   simp only [Flow.putAll, pnV]
   simp [Act.put]
   have h2 := h1.disked hC.1 hC.2 HFM'.out HCNT.out
   have ht2 := hC.2
   clear hC h1 c0 c7 hq hq2
   have c7 := h2.cell 7 rfl
   have f7 := h2.free 7 rfl
   obtain ⟨wm1, wm2⟩ := WM.out
   go_wp2
   go_end0
   have hset : Turned Z.foot wz (wz.setCell ⟨Z.r, 7, none⟩ (.int .i64 ((s.mks : Int) + 1))) := .set wz 7 _ (.inl rfl)
   have hs := h2.stored 7 (.int .i64 ((s.mks : Int) + 1)) { s with X := upd s.X q (padz ZZ), mks := s.mks + 1 } rfl rfl rfl rfl rfl (by omega) (by rw [HS.out]; exact HFM.out)
   rw [HS.out] at hs
   rw [e2.out]
   exact ⟨rfl, hs, ((Turned.of_below hb1).trans (ht2.mono fun i => foot_R)).trans hset⟩
end Go.Proofs.YtfefpcdgflgaeaaGreatDoor
end
