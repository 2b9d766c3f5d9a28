/- chunk.Write and Chunk of the reference say what chkOf says. Printed by gen_chunk.py.

The program's receiver: Mark, New. Printed by gen_recvm.py. -/
import Derived.Test.YtfefpcdgflgaeaaGreatDoorZ6
import Derived.Test.YtfefpcdgflgaeaaGreatDoorZ3
import Derived.Test.YtfefpcdgflgaeaaGreatDoorZ5
section
namespace Go.Proofs.YtfefpcdgflgaeaaGreatDoor
set_option linter.unusedSimpArgs false
set_option linter.unusedVariables false
open Go.RowKit As
/-- The four bytes, behind the operation that makes them. -/
structure CI (w0 : World) (n g : Nat) (l11 : Bool) (w : World) : Prop where
 bel : Below w0.heap.size w0 w
 tmp : l11 = true → BytesAt w g (lowB 4 n)
theorem CI.grow {w0 w w' : World} {n g : Nat} {l11 : Bool} (h : CI w0 n g l11 w) (hb : Below w.heap.size w w') : CI w0 n g l11 w' :=
 ⟨h.bel.trans (hb.mono h.bel.size), fun h4 => (h.tmp h4).keep hb ((h.tmp h4).lt (by rw [lowB_len]; omega))⟩
theorem bytes_new {w : World} {vs : Array Value} {t : TypeId} {l : List UInt8} (hv : vs = (l.map byteV).toArray) : BytesAt (w.alloc (.cells vs t)) w.heap.size l := by
 subst hv
 intro i hi
 refine ⟨?_, ?_⟩
 ·rw [World.cell?_alloc_new]
  simp [List.getElem?_map, List.getElem?_eq_getElem hi]
 ·simp only [World.alloc, World.frozen?, Array.getElem?_push_size]
  simp
theorem CI.build {w0 w : World} {n g : Nat} {l11 : Bool} {vs : Array Value} {t : TypeId} (h : CI w0 n g l11 w) (hv : vs = ((lowB 4 n).map byteV).toArray) : CI w0 n w.heap.size true (w.alloc (.cells vs t)) :=
 ⟨h.bel.alloc h.bel.size _, fun _ => bytes_new hv⟩
theorem CI.str {P : Program} {w0 w : World} {n g : Nat} {l11 : Bool} (h : CI w0 n g l11 w) (h4 : l11 = true) (src e dst : TypeId) (hs : P.underlying src = some (.slice e)) (he : P.underlying e = some (.int .u8)) (hd : P.underlying dst = some .string) :
  (convert src dst (.slice (some ⟨g, 0, none⟩) 4 4)).run P w = .ok (.string (four n)) w := by
 have := string_of (P := P) w src e dst g 4 (lowB 4 n) hs he hd (h.tmp h4)
 rw [lowB_len] at this
 exact this
theorem u64_nat {n : Nat} (h : n ≤ 4096) : IntKind.u64.wrap (n : Int) = (n : Int) := by rw [IntKind.wrap_u64]; omega
theorem chk_bytes {n T A : Nat} {d : ByteArray} : chkBytes ((n : Int), (T : Int), (A : Int), d) = strOf [67] ++ four n ++ strOf (vput T) ++ strOf (vput A) ++ d := rfl
theorem four_cells (n : Nat) : (#[.int .u8 (IntKind.u8.wrap (n : Int)), .int .u8 (IntKind.u8.wrap ((n : Int) / 256)), .int .u8 (IntKind.u8.wrap ((n : Int) / 65536)), .int .u8 (IntKind.u8.wrap ((n : Int) / 16777216))] : Array Value) = ((lowB 4 n).map byteV).toArray := by
 rw [show (n : Int) / 256 = ((n / 256 : Nat) : Int) by omega, show (n : Int) / 65536 = ((n / 65536 : Nat) : Int) by omega, show (n : Int) / 16777216 = ((n / 16777216 : Nat) : Int) by omega, lowB_four, u8_low, u8_low, u8_low, u8_low]
 rfl
def cwV (bw n T A : Nat) (F PT PA D Z C : ByteArray) (g : Nat) : Nat → Value
 | 0 => .int .u32 (n : Int)
 | 1 => .int .u8 (IntKind.u8.wrap (n : Int))
 | 2 => .int .u32 (n : Int)
 | 3 => .int .u32 ((n : Int) / 256)
 | 4 => .int .u8 (IntKind.u8.wrap ((n : Int) / 256))
 | 5 => .int .u32 (n : Int)
 | 6 => .int .u32 ((n : Int) / 65536)
 | 7 => .int .u8 (IntKind.u8.wrap ((n : Int) / 65536))
 | 8 => .int .u32 (n : Int)
 | 9 => .int .u32 ((n : Int) / 16777216)
 | 10 => .int .u8 (IntKind.u8.wrap ((n : Int) / 16777216))
 | 11 => .slice (some ⟨g, 0, none⟩) 4 4
 | 12 => .string F
 | 13 => .string (C ++ F)
 | 14 => .pointer (some ⟨bw, 1, none⟩)
 | 15 => .int .i64 (T : Int)
 | 16 => .int .u64 (T : Int)
 | 17 => .string PT
 | 18 => .string (C ++ F ++ PT)
 | 19 => .pointer (some ⟨bw, 2, none⟩)
 | 20 => .int .i64 (A : Int)
 | 21 => .int .u64 (A : Int)
 | 22 => .string PA
 | 23 => .string (C ++ F ++ PT ++ PA)
 | 24 => .pointer (some ⟨bw, 3, none⟩)
 | 25 => .string D
 | 26 => .string (C ++ F ++ PT ++ PA ++ D)
 | 27 => .string Z
 | 28 => .string Z
 | 29 => .nilIface
 | _ => undef
def rcV (bw n T A : Nat) (F PT PA D Z C : ByteArray) (g : Nat) : Nat → Value
 | 0 => .pointer (some ⟨bw, 0, none⟩)
 | 1 => .int .u32 (n : Int)
 | 2 => .string F
 | 3 => .string (C ++ F)
 | 4 => .pointer (some ⟨bw, 1, none⟩)
 | 5 => .int .i64 (T : Int)
 | 6 => .int .u64 (T : Int)
 | 7 => .string PT
 | 8 => .string (C ++ F ++ PT)
 | 9 => .pointer (some ⟨bw, 2, none⟩)
 | 10 => .int .i64 (A : Int)
 | 11 => .int .u64 (A : Int)
 | 12 => .string PA
 | 13 => .string (C ++ F ++ PT ++ PA)
 | 14 => .pointer (some ⟨bw, 3, none⟩)
 | 15 => .string D
 | 16 => .string (C ++ F ++ PT ++ PA ++ D)
 | 17 => .string Z
 | 18 => .string Z
 | 19 => .int .i64 0
 | _ => undef
set_option maxRecDepth 100000 in
/-- four of the reference. -/
theorem rfour_any (n : Nat) (w : World) (hn : n < 4294967296) :
  Calls Tryz.prog 45 #[.int .u32 (n : Int)] w fun e w' => e = .returned (.string (four n)) ∧ Below w.heap.size w w' := by
 have h0 := Lib.hid (show (⟨#[]⟩ : ByteArray) = strOf (lowB 0 n) from rfl)
 go_enter Tryz.func45, Tryz.ntmps45
 go_wp2
 go_loopw [0, 3, 4] (fun m a i wr => ∃ k : Nat, k ≤ 4 ∧ i = .int .i64 k ∧ m = .int .u32 ((n / 256 ^ k : Nat) : Int) ∧ a = .string (strOf (lowB k n)) ∧ Below w.heap.size w wr) (fun _ _ i _ => 4 - (intOf i).toNat)
 case atStart => exact ⟨0, by omega, rfl, by simp, by rw [← h0.out], Below.refl _ _⟩
 case round =>
  obtain ⟨k, hk, rfl, rfl, rfl, hbel⟩ := hrel
  have hB := hbel.size
  by_cases hlt : k < 4
  ·have hsn := Lib.hid (lowB_snoc k n)
   have hl := lowB_len k n
   obtain ⟨m, hm⟩ : ∃ m, m = n / 256 ^ k := ⟨_, rfl⟩
   have hmn : m ≤ n := by rw [hm]; exact Nat.div_le_self _ _
   rw [← hm]
   have hnx := Lib.hid (show n / 256 ^ (k + 1) = m / 256 by rw [hm, Nat.div_div_eq_div_mul, Nat.pow_succ])
   have HM := Lib.hid hm
   clear hm
   have hsz : (strOf (lowB k n)).size = k := by rw [strOf_len (lowB k n), hl]
   obtain ⟨T, hT⟩ : ∃ T, T = strOf (lowB k n) := ⟨_, rfl⟩
   rw [← hT] at hsz ⊢
   have HT := Lib.hid hT
   clear hT
   go_wp2_with fail
   rw [string_new wr 69 5 9 5 _ [UInt8.ofNat (m % 256)] 1 (by simp [byteV]) rfl Tryz.underlying69 Tryz.underlying5 Tryz.underlying9]
   have h1 : (strOf [UInt8.ofNat (m % 256)]).size = 1 := rfl
   generalize hF : strOf [UInt8.ofNat (m % 256)] = F at *
   have HF := Lib.hid hF
   clear hF
   have hcat : T.size + F.size ≤ 9223372036854775807 := by omega
   go_wp2_with fail
   go_roundw
   case rel => exact ⟨k + 1, by omega, by go_num, valI (by rw [hnx.out]; omega), by rw [hsn.out, strOf_add, ← HF.out, HM.out, ← HM.out, HT.out], hbel.alloc hB _⟩
   case measure => simp [intOf]; omega
  ·obtain rfl : k = 4 := by omega
   go_wp2_with fail
   go_ret
   exact ⟨rfl, hbel⟩

set_option maxHeartbeats 4000000 in
set_option maxRecDepth 100000 in
theorem cwrite_any (m t a : Int) (d : ByteArray) (w : World) (hm0 : 0 ≤ m) (hm1 : m < 4294967296) (hd : d.size ≤ 1000000) :
  Calls Tryz.prog 56 #[ckV m t a d] w fun r w' => r = .returned (.tuple #[.string (chkOf (m, t, a, d)).1, errV (chkRight t a d.size)]) ∧ Below w.heap.size w w' := by
 have hW := CkAt.new w m t a d
 have b0 := below1 w (ckO m t a d)
 have HW := hW
 obtain ⟨c0, c1, c2, c3⟩ := hW
 by_cases hz : chkRight t a d.size = 0
 ·have hr := Lib.hid (chkOf_good (x := (m, t, a, d)) hz)
  obtain ⟨r1, r2, r3, r4, r5⟩ := chkRight_ok hz
  obtain ⟨n, rfl⟩ := Int.eq_ofNat_of_zero_le hm0
  obtain ⟨T, rfl⟩ := Int.eq_ofNat_of_zero_le (show 0 ≤ t by omega)
  obtain ⟨A, rfl⟩ := Int.eq_ofNat_of_zero_le r3
  have hn : n < 4294967296 := by omega
  have lT : T ≤ 4096 := by omega
  have lA : A ≤ 4096 := by omega
  have HZ := Lib.hid hz
  rw [hr.out, chk_bytes]
  clear hz hm0 hm1 r1 r2 r3 r4 hr
  have UT := u64_nat lT
  have UA := u64_nat lA
  have pT : T < 18446744073709551616 := by omega
  have pA : A < 18446744073709551616 := by omega
  have lPT := vput_len10 pT
  have lPA := vput_len10 pA
  rw [← strOf_size] at lPT lPA
  have lF := four_size n
  obtain ⟨PT, hPT⟩ : ∃ x, x = strOf (vput T) := ⟨_, rfl⟩
  obtain ⟨PA, hPA⟩ : ∃ x, x = strOf (vput A) := ⟨_, rfl⟩
  obtain ⟨F, hF⟩ : ∃ x, x = four n := ⟨_, rfl⟩
  obtain ⟨C, hC67⟩ : ∃ x, x = strOf [67] := ⟨_, rfl⟩
  have lC : C.size = 1 := hC67 ▸ rfl
  have hC67' : (⟨#[67]⟩ : ByteArray) = C := by rw [hC67]
  rw [← hPT] at lPT
  rw [← hPA] at lPA
  rw [← hF] at lF
  rw [← hPT, ← hPA, show four n = F from hF.symm]
  have z1 : ¬ 9223372036854775807 < C.size + F.size := by omega
  have z2 : ¬ 9223372036854775807 < (C ++ F).size + PT.size := by rw [ByteArray.size_append]; omega
  have z3 : ¬ 9223372036854775807 < (C ++ F ++ PT).size + PA.size := by rw [ByteArray.size_append, ByteArray.size_append]; omega
  have z4 : ¬ 9223372036854775807 < (C ++ F ++ PT ++ PA).size + d.size := by rw [ByteArray.size_append, ByteArray.size_append, ByteArray.size_append]; omega
  have zS : (C ++ F ++ PT ++ PA ++ d).size ≤ 1000000 := by rw [ByteArray.size_append, ByteArray.size_append, ByteArray.size_append, ByteArray.size_append]; omega
  simp only [ByteArray.size_append] at z2 z3 z4
  rw [← hC67]
  have HPT := Lib.hid hPT
  have HPA := Lib.hid hPA
  have HF := Lib.hid hF
  have HC := Lib.hid hC67
  have HS := Lib.hid zS
  clear hPT hPA hF hC67 zS
  obtain ⟨Z, hZ⟩ : ∃ x, x = sealOf (C ++ F ++ PT ++ PA ++ d) := ⟨_, rfl⟩
  rw [← hZ]
  have HZZ := Lib.hid hZ
  clear hZ
  go_enter Tryz.func56, Tryz.ntmps56
  go_wp2_with fail
  refine (ckright_any _ _ _ _ _).mono ?_
  rintro r w1 ⟨rfl, hb1⟩
  rw [HZ.out]
  obtain ⟨k0, k1, k2, k3⟩ := HW.below hb1
  have b1 := b0.trans (hb1.mono b0.size)
  clear c0 c1 c2 c3
  rw [errV_zero]
  go_wp2_with fail
  refine Flow.wp_region_flow' (by kernel_rfl) (by kernel_rfl) (by kernel_rfl) 41 rfl (by kernel_rfl) (cwV w.heap.size n T A F PT PA d Z C) (fun g L wz => CI w1 n g (L 11) wz) 0 ⟨(Below.refl _ _).drew, fun h => (by cases h)⟩ ⟨?_, ?_, ?_, ?_, ?_, ?_, ?_, ?_, ?_, ?_, ?_, ?_, ?_, ?_, ?_, ?_, ?_, ?_, ?_, ?_, ?_, ?_, ?_, ?_, ?_, ?_, ?_, ?_, ?_, ?_, trivial⟩ ?_
  ·intro g L wz K ρ hc0 hf0 hF hO hi hd hC hK
   have e5 : ρ (.tmp 5) = .int .u32 (n : Int) := hO 5 (by kernel_rfl)
   simp [go_sem, Flow.yl_value, Flow.yl_skip, Flow.yl_enter, hc0, hf0, e5]
   exact hK g wz hC (fun _ _ => rfl)
  ·intro g L wz K ρ hc0 hf0 hF hO hi hd hC hK
   have d0 : L 0 = true := hd ⟨0, .data⟩ (by simp) rfl
   have e13 : ρ (.tmp 13) = .int .u32 (n : Int) := hF 13 0 (by kernel_rfl) d0
   simp [go_sem, Flow.yl_value, Flow.yl_skip, Flow.yl_enter, hc0, hf0, e13]
   exact hK g wz hC (fun _ _ => rfl)
  ·intro g L wz K ρ hc0 hf0 hF hO hi hd hC hK
   have e5 : ρ (.tmp 5) = .int .u32 (n : Int) := hO 5 (by kernel_rfl)
   simp [go_sem, Flow.yl_value, Flow.yl_skip, Flow.yl_enter, hc0, hf0, e5]
   exact hK g wz hC (fun _ _ => rfl)
  ·intro g L wz K ρ hc0 hf0 hF hO hi hd hC hK
   have d2 : L 2 = true := hd ⟨2, .data⟩ (by simp) rfl
   have e15 : ρ (.tmp 15) = .int .u32 (n : Int) := hF 15 2 (by kernel_rfl) d2
   simp [go_sem, Flow.yl_value, Flow.yl_skip, Flow.yl_enter, hc0, hf0, e15]
   exact hK g wz hC (fun _ _ => rfl)
  ·intro g L wz K ρ hc0 hf0 hF hO hi hd hC hK
   have d3 : L 3 = true := hd ⟨3, .data⟩ (by simp) rfl
   have e16 : ρ (.tmp 16) = .int .u32 ((n : Int) / 256) := hF 16 3 (by kernel_rfl) d3
   simp [go_sem, Flow.yl_value, Flow.yl_skip, Flow.yl_enter, hc0, hf0, e16]
   exact hK g wz hC (fun _ _ => rfl)
  ·intro g L wz K ρ hc0 hf0 hF hO hi hd hC hK
   have e5 : ρ (.tmp 5) = .int .u32 (n : Int) := hO 5 (by kernel_rfl)
   simp [go_sem, Flow.yl_value, Flow.yl_skip, Flow.yl_enter, hc0, hf0, e5]
   exact hK g wz hC (fun _ _ => rfl)
  ·intro g L wz K ρ hc0 hf0 hF hO hi hd hC hK
   have d5 : L 5 = true := hd ⟨5, .data⟩ (by simp) rfl
   have e18 : ρ (.tmp 18) = .int .u32 (n : Int) := hF 18 5 (by kernel_rfl) d5
   simp [go_sem, Flow.yl_value, Flow.yl_skip, Flow.yl_enter, hc0, hf0, e18]
   exact hK g wz hC (fun _ _ => rfl)
  ·intro g L wz K ρ hc0 hf0 hF hO hi hd hC hK
   have d6 : L 6 = true := hd ⟨6, .data⟩ (by simp) rfl
   have e19 : ρ (.tmp 19) = .int .u32 ((n : Int) / 65536) := hF 19 6 (by kernel_rfl) d6
   simp [go_sem, Flow.yl_value, Flow.yl_skip, Flow.yl_enter, hc0, hf0, e19]
   exact hK g wz hC (fun _ _ => rfl)
  ·intro g L wz K ρ hc0 hf0 hF hO hi hd hC hK
   have e5 : ρ (.tmp 5) = .int .u32 (n : Int) := hO 5 (by kernel_rfl)
   simp [go_sem, Flow.yl_value, Flow.yl_skip, Flow.yl_enter, hc0, hf0, e5]
   exact hK g wz hC (fun _ _ => rfl)
  ·intro g L wz K ρ hc0 hf0 hF hO hi hd hC hK
   have d8 : L 8 = true := hd ⟨8, .data⟩ (by simp) rfl
   have e21 : ρ (.tmp 21) = .int .u32 (n : Int) := hF 21 8 (by kernel_rfl) d8
   simp [go_sem, Flow.yl_value, Flow.yl_skip, Flow.yl_enter, hc0, hf0, e21]
   exact hK g wz hC (fun _ _ => rfl)
  ·intro g L wz K ρ hc0 hf0 hF hO hi hd hC hK
   have d9 : L 9 = true := hd ⟨9, .data⟩ (by simp) rfl
   have e22 : ρ (.tmp 22) = .int .u32 ((n : Int) / 16777216) := hF 22 9 (by kernel_rfl) d9
   simp [go_sem, Flow.yl_value, Flow.yl_skip, Flow.yl_enter, hc0, hf0, e22]
   exact hK g wz hC (fun _ _ => rfl)
  ·intro g L wz K ρ hc0 hf0 hF hO hi hd hC hK
   have d1 : L 1 = true := hd ⟨1, .data⟩ (by simp) rfl
   have e14 : ρ (.tmp 14) = .int .u8 (IntKind.u8.wrap (n : Int)) := hF 14 1 (by kernel_rfl) d1
   have d4 : L 4 = true := hd ⟨4, .data⟩ (by simp) rfl
   have e17 : ρ (.tmp 17) = .int .u8 (IntKind.u8.wrap ((n : Int) / 256)) := hF 17 4 (by kernel_rfl) d4
   have d7 : L 7 = true := hd ⟨7, .data⟩ (by simp) rfl
   have e20 : ρ (.tmp 20) = .int .u8 (IntKind.u8.wrap ((n : Int) / 65536)) := hF 20 7 (by kernel_rfl) d7
   have d10 : L 10 = true := hd ⟨10, .data⟩ (by simp) rfl
   have e23 : ρ (.tmp 23) = .int .u8 (IntKind.u8.wrap ((n : Int) / 16777216)) := hF 23 10 (by kernel_rfl) d10
   simp [go_sem, Flow.yl_value, Flow.yl_skip, Flow.yl_enter, hc0, hf0, e14, e17, e20, e23]
   refine hK wz.heap.size _ ?_ ?_
   ·exact hC.build (four_cells n)
   ·intro j hj; unfold cwV; split <;> first | rfl | (rw [hi] at hj; cases hj)
  ·intro g L wz K ρ hc0 hf0 hF hO hi hd hC hK
   have d11 : L 11 = true := hd ⟨11, .data⟩ (by simp) rfl
   have e24 : ρ (.tmp 24) = .slice (some ⟨g, 0, none⟩) 4 4 := hF 24 11 (by kernel_rfl) d11
   have hst := hC.str (P := Tryz.prog) d11 69 5 9 Tryz.underlying69 Tryz.underlying5 Tryz.underlying9
   rw [show four n = F from HF.out.symm] at hst
   simp [go_sem, Flow.yl_value, Flow.yl_skip, Flow.yl_enter, hc0, hf0, e24, hst]
   exact hK g wz hC (fun _ _ => rfl)
  ·intro g L wz K ρ hc0 hf0 hF hO hi hd hC hK
   have d12 : L 12 = true := hd ⟨12, .data⟩ (by simp) rfl
   have e25 : ρ (.tmp 25) = .string F := hF 25 12 (by kernel_rfl) d12
   simp [go_sem, Flow.yl_value, Flow.yl_skip, Flow.yl_enter, hc0, hf0, e25, z1, hC67']
   exact hK g wz hC (fun _ _ => rfl)
  ·intro g L wz K ρ hc0 hf0 hF hO hi hd hC hK
   have e1 : ρ (.tmp 1) = .pointer (some ⟨w.heap.size, 0, none⟩) := hO 1 (by kernel_rfl)
   simp [go_sem, Flow.yl_value, Flow.yl_skip, Flow.yl_enter, hc0, hf0, e1]
   exact hK g wz hC (fun _ _ => rfl)
  ·intro g L wz K ρ hc0 hf0 hF hO hi hd hC hK
   have d14 : L 14 = true := hd ⟨14, .data⟩ (by simp) rfl
   have e27 : ρ (.tmp 27) = .pointer (some ⟨w.heap.size, 1, none⟩) := hF 27 14 (by kernel_rfl) d14
   have cc := (hC.bel.cell (cell_lt k1)).trans k1
   simp [go_sem, Flow.yl_value, Flow.yl_skip, Flow.yl_enter, hc0, hf0, e27, cc]
   exact hK g wz hC (fun _ _ => rfl)
  ·intro g L wz K ρ hc0 hf0 hF hO hi hd hC hK
   have d15 : L 15 = true := hd ⟨15, .data⟩ (by simp) rfl
   have e28 : ρ (.tmp 28) = .int .i64 (T : Int) := hF 28 15 (by kernel_rfl) d15
   simp [go_sem, Flow.yl_value, Flow.yl_skip, Flow.yl_enter, hc0, hf0, e28, UT]
   exact hK g wz hC (fun _ _ => rfl)
  ·intro g L wz K ρ hc0 hf0 hF hO hi hd hC hK
   have d16 : L 16 = true := hd ⟨16, .data⟩ (by simp) rfl
   have e29 : ρ (.tmp 29) = .int .u64 (T : Int) := hF 29 16 (by kernel_rfl) d16
   simp [go_sem, Flow.yl_value, Flow.yl_skip, Flow.yl_enter, hc0, hf0, e29]
   refine (vput_any T wz pT).mono ?_
   rintro r wn ⟨rfl, hbn⟩
   have hE : (⟨(vput T).toArray⟩ : ByteArray) = PT := HPT.out.symm
   rw [hE]
   exact ⟨_, rfl, hK g wn (hC.grow hbn) (fun _ _ => rfl)⟩
  ·intro g L wz K ρ hc0 hf0 hF hO hi hd hC hK
   have d13 : L 13 = true := hd ⟨13, .data⟩ (by simp) rfl
   have e26 : ρ (.tmp 26) = .string (C ++ F) := hF 26 13 (by kernel_rfl) d13
   have d17 : L 17 = true := hd ⟨17, .data⟩ (by simp) rfl
   have e30 : ρ (.tmp 30) = .string PT := hF 30 17 (by kernel_rfl) d17
   simp [go_sem, Flow.yl_value, Flow.yl_skip, Flow.yl_enter, hc0, hf0, e26, e30, z2]
   exact hK g wz hC (fun _ _ => rfl)
  ·intro g L wz K ρ hc0 hf0 hF hO hi hd hC hK
   have e1 : ρ (.tmp 1) = .pointer (some ⟨w.heap.size, 0, none⟩) := hO 1 (by kernel_rfl)
   simp [go_sem, Flow.yl_value, Flow.yl_skip, Flow.yl_enter, hc0, hf0, e1]
   exact hK g wz hC (fun _ _ => rfl)
  ·intro g L wz K ρ hc0 hf0 hF hO hi hd hC hK
   have d19 : L 19 = true := hd ⟨19, .data⟩ (by simp) rfl
   have e32 : ρ (.tmp 32) = .pointer (some ⟨w.heap.size, 2, none⟩) := hF 32 19 (by kernel_rfl) d19
   have cc := (hC.bel.cell (cell_lt k2)).trans k2
   simp [go_sem, Flow.yl_value, Flow.yl_skip, Flow.yl_enter, hc0, hf0, e32, cc]
   exact hK g wz hC (fun _ _ => rfl)
  ·intro g L wz K ρ hc0 hf0 hF hO hi hd hC hK
   have d20 : L 20 = true := hd ⟨20, .data⟩ (by simp) rfl
   have e33 : ρ (.tmp 33) = .int .i64 (A : Int) := hF 33 20 (by kernel_rfl) d20
   simp [go_sem, Flow.yl_value, Flow.yl_skip, Flow.yl_enter, hc0, hf0, e33, UA]
   exact hK g wz hC (fun _ _ => rfl)
  ·intro g L wz K ρ hc0 hf0 hF hO hi hd hC hK
   have d21 : L 21 = true := hd ⟨21, .data⟩ (by simp) rfl
   have e34 : ρ (.tmp 34) = .int .u64 (A : Int) := hF 34 21 (by kernel_rfl) d21
   simp [go_sem, Flow.yl_value, Flow.yl_skip, Flow.yl_enter, hc0, hf0, e34]
   refine (vput_any A wz pA).mono ?_
   rintro r wn ⟨rfl, hbn⟩
   have hE : (⟨(vput A).toArray⟩ : ByteArray) = PA := HPA.out.symm
   rw [hE]
   exact ⟨_, rfl, hK g wn (hC.grow hbn) (fun _ _ => rfl)⟩
  ·intro g L wz K ρ hc0 hf0 hF hO hi hd hC hK
   have d18 : L 18 = true := hd ⟨18, .data⟩ (by simp) rfl
   have e31 : ρ (.tmp 31) = .string (C ++ F ++ PT) := hF 31 18 (by kernel_rfl) d18
   have d22 : L 22 = true := hd ⟨22, .data⟩ (by simp) rfl
   have e35 : ρ (.tmp 35) = .string PA := hF 35 22 (by kernel_rfl) d22
   simp [go_sem, Flow.yl_value, Flow.yl_skip, Flow.yl_enter, hc0, hf0, e31, e35, z3]
   exact hK g wz hC (fun _ _ => rfl)
  ·intro g L wz K ρ hc0 hf0 hF hO hi hd hC hK
   have e1 : ρ (.tmp 1) = .pointer (some ⟨w.heap.size, 0, none⟩) := hO 1 (by kernel_rfl)
   simp [go_sem, Flow.yl_value, Flow.yl_skip, Flow.yl_enter, hc0, hf0, e1]
   exact hK g wz hC (fun _ _ => rfl)
  ·intro g L wz K ρ hc0 hf0 hF hO hi hd hC hK
   have d24 : L 24 = true := hd ⟨24, .data⟩ (by simp) rfl
   have e37 : ρ (.tmp 37) = .pointer (some ⟨w.heap.size, 3, none⟩) := hF 37 24 (by kernel_rfl) d24
   have cc := (hC.bel.cell (cell_lt k3)).trans k3
   simp [go_sem, Flow.yl_value, Flow.yl_skip, Flow.yl_enter, hc0, hf0, e37, cc]
   exact hK g wz hC (fun _ _ => rfl)
  ·intro g L wz K ρ hc0 hf0 hF hO hi hd hC hK
   have d23 : L 23 = true := hd ⟨23, .data⟩ (by simp) rfl
   have e36 : ρ (.tmp 36) = .string (C ++ F ++ PT ++ PA) := hF 36 23 (by kernel_rfl) d23
   have d25 : L 25 = true := hd ⟨25, .data⟩ (by simp) rfl
   have e38 : ρ (.tmp 38) = .string d := hF 38 25 (by kernel_rfl) d25
   simp [go_sem, Flow.yl_value, Flow.yl_skip, Flow.yl_enter, hc0, hf0, e36, e38, z4]
   exact hK g wz hC (fun _ _ => rfl)
  ·intro g L wz K ρ hc0 hf0 hF hO hi hd hC hK
   have d26 : L 26 = true := hd ⟨26, .data⟩ (by simp) rfl
   have e39 : ρ (.tmp 39) = .string (C ++ F ++ PT ++ PA ++ d) := hF 39 26 (by kernel_rfl) d26
   simp [go_sem, Flow.yl_value, Flow.yl_skip, Flow.yl_enter, hc0, hf0, e39]
   refine (seal_any _ wz HS.out).mono ?_
   rintro r wn ⟨rfl, hbn⟩
   rw [← HZZ.out]
   exact ⟨_, rfl, hK g wn (hC.grow hbn) (fun _ _ => rfl)⟩
  ·intro g L wz K ρ hc0 hf0 hF hO hi hd hC hK
   have d27 : L 27 = true := hd ⟨27, .data⟩ (by simp) rfl
   have e40 : ρ (.tmp 40) = .string Z := hF 40 27 (by kernel_rfl) d27
   simp [go_sem, Flow.yl_value, Flow.yl_skip, Flow.yl_enter, hc0, hf0, e40]
   exact hK g wz hC (fun _ _ => rfl)
  ·intro g L wz K ρ hc0 hf0 hF hO hi hd hC hK
   simp [go_sem, Flow.yl_value, Flow.yl_skip, Flow.yl_enter, hc0, hf0]
   exact hK g wz hC (fun _ _ => rfl)
  ·intro g L wz hL hC
   have hbF := hC.bel
   simp only [Flow.putAll, cwV]
   go_wp2
   go_ret2
   refine ⟨?_, b1.trans (hbF.mono b1.size)⟩
   simp [go_sem, HZ.out, errV_zero]
 ·have hr := Lib.hid (chkOf_bad (x := (m, t, a, d)) hz)
  rw [hr.out]
  have hv := Lib.hid (errV_of hz)
  have HZ := Lib.hid hz
  clear hz
  go_enter Tryz.func56, Tryz.ntmps56
  go_wp2_with fail
  refine (ckright_any _ _ _ _ _).mono ?_
  rintro r w1 ⟨rfl, hb1⟩
  have b1 := b0.trans (hb1.mono b0.size)
  clear c0 c1 c2 c3 HW
  rw [hv.out]
  go_wp2
  go_ret2
  exact ⟨by rw [hv.out]; rfl, b1⟩
set_option maxHeartbeats 4000000 in
set_option maxRecDepth 100000 in
theorem rchunk_any (m t a : Int) (d : ByteArray) (w : World) (hm0 : 0 ≤ m) (hm1 : m < 4294967296) (hd : d.size ≤ 1000000) :
  Calls Tryz.prog 54 #[ckV m t a d] w fun r w' => r = .returned (.tuple #[.string (chkOf (m, t, a, d)).1, .int .i64 (chkRight t a d.size)]) ∧ Below w.heap.size w w' := by
 have hW := CkAt.new w m t a d
 have b0 := below1 w (ckO m t a d)
 have HW := hW
 obtain ⟨c0, c1, c2, c3⟩ := hW
 by_cases hz : chkRight t a d.size = 0
 ·have hr := Lib.hid (chkOf_good (x := (m, t, a, d)) hz)
  obtain ⟨r1, r2, r3, r4, r5⟩ := chkRight_ok hz
  obtain ⟨n, rfl⟩ := Int.eq_ofNat_of_zero_le hm0
  obtain ⟨T, rfl⟩ := Int.eq_ofNat_of_zero_le (show 0 ≤ t by omega)
  obtain ⟨A, rfl⟩ := Int.eq_ofNat_of_zero_le r3
  have hn : n < 4294967296 := by omega
  have lT : T ≤ 4096 := by omega
  have lA : A ≤ 4096 := by omega
  have HZ := Lib.hid hz
  rw [hr.out, chk_bytes]
  clear hz hm0 hm1 r1 r2 r3 r4 hr
  have UT := u64_nat lT
  have UA := u64_nat lA
  have pT : T < 18446744073709551616 := by omega
  have pA : A < 18446744073709551616 := by omega
  have lPT := vput_len10 pT
  have lPA := vput_len10 pA
  rw [← strOf_size] at lPT lPA
  have lF := four_size n
  obtain ⟨PT, hPT⟩ : ∃ x, x = strOf (vput T) := ⟨_, rfl⟩
  obtain ⟨PA, hPA⟩ : ∃ x, x = strOf (vput A) := ⟨_, rfl⟩
  obtain ⟨F, hF⟩ : ∃ x, x = four n := ⟨_, rfl⟩
  obtain ⟨C, hC67⟩ : ∃ x, x = strOf [67] := ⟨_, rfl⟩
  have lC : C.size = 1 := hC67 ▸ rfl
  have hC67' : (⟨#[67]⟩ : ByteArray) = C := by rw [hC67]
  rw [← hPT] at lPT
  rw [← hPA] at lPA
  rw [← hF] at lF
  rw [← hPT, ← hPA, show four n = F from hF.symm]
  have z1 : ¬ 9223372036854775807 < C.size + F.size := by omega
  have z2 : ¬ 9223372036854775807 < (C ++ F).size + PT.size := by rw [ByteArray.size_append]; omega
  have z3 : ¬ 9223372036854775807 < (C ++ F ++ PT).size + PA.size := by rw [ByteArray.size_append, ByteArray.size_append]; omega
  have z4 : ¬ 9223372036854775807 < (C ++ F ++ PT ++ PA).size + d.size := by rw [ByteArray.size_append, ByteArray.size_append, ByteArray.size_append]; omega
  have zS : (C ++ F ++ PT ++ PA ++ d).size ≤ 1000000 := by rw [ByteArray.size_append, ByteArray.size_append, ByteArray.size_append, ByteArray.size_append]; omega
  simp only [ByteArray.size_append] at z2 z3 z4
  rw [← hC67]
  have HPT := Lib.hid hPT
  have HPA := Lib.hid hPA
  have HF := Lib.hid hF
  have HC := Lib.hid hC67
  have HS := Lib.hid zS
  clear hPT hPA hF hC67 zS
  obtain ⟨Z, hZ⟩ : ∃ x, x = sealOf (C ++ F ++ PT ++ PA ++ d) := ⟨_, rfl⟩
  rw [← hZ]
  have HZZ := Lib.hid hZ
  clear hZ
  go_enter Tryz.func54, Tryz.ntmps54
  go_wp2_with fail
  refine (rckright_any _ _ _ _ _ (by omega)).mono ?_
  rintro r w1 ⟨rfl, hb1⟩
  rw [HZ.out]
  obtain ⟨k0, k1, k2, k3⟩ := HW.below hb1
  have b1 := b0.trans (hb1.mono b0.size)
  clear c0 c1 c2 c3
  go_wp2_with fail
  refine Flow.wp_region_flow' (by kernel_rfl) (by kernel_rfl) (by kernel_rfl) 28 rfl (by kernel_rfl) (rcV w.heap.size n T A F PT PA d Z C) (fun g L wz => CI w1 n g (L 99) wz) 0 ⟨(Below.refl _ _).drew, fun h => (by cases h)⟩ ⟨?_, ?_, ?_, ?_, ?_, ?_, ?_, ?_, ?_, ?_, ?_, ?_, ?_, ?_, ?_, ?_, ?_, ?_, ?_, ?_, trivial⟩ ?_
  ·intro g L wz K ρ hc0 hf0 hF hO hi hd hC hK
   have e1 : ρ (.tmp 1) = .pointer (some ⟨w.heap.size, 0, none⟩) := hO 1 (by kernel_rfl)
   simp [go_sem, Flow.yl_value, Flow.yl_skip, Flow.yl_enter, hc0, hf0, e1]
   exact hK g wz hC (fun _ _ => rfl)
  ·intro g L wz K ρ hc0 hf0 hF hO hi hd hC hK
   have d0 : L 0 = true := hd ⟨0, .data⟩ (by simp) rfl
   have e10 : ρ (.tmp 10) = .pointer (some ⟨w.heap.size, 0, none⟩) := hF 10 0 (by kernel_rfl) d0
   have cc := (hC.bel.cell (cell_lt k0)).trans k0
   simp [go_sem, Flow.yl_value, Flow.yl_skip, Flow.yl_enter, hc0, hf0, e10, cc]
   exact hK g wz hC (fun _ _ => rfl)
  ·intro g L wz K ρ hc0 hf0 hF hO hi hd hC hK
   have d1 : L 1 = true := hd ⟨1, .data⟩ (by simp) rfl
   have e11 : ρ (.tmp 11) = .int .u32 (n : Int) := hF 11 1 (by kernel_rfl) d1
   simp [go_sem, Flow.yl_value, Flow.yl_skip, Flow.yl_enter, hc0, hf0, e11]
   refine (rfour_any n wz hn).mono ?_
   rintro r wn ⟨rfl, hbn⟩
   rw [show four n = F from HF.out.symm]
   exact ⟨_, rfl, hK g wn (hC.grow hbn) (fun _ _ => rfl)⟩
  ·intro g L wz K ρ hc0 hf0 hF hO hi hd hC hK
   have d2 : L 2 = true := hd ⟨2, .data⟩ (by simp) rfl
   have e12 : ρ (.tmp 12) = .string F := hF 12 2 (by kernel_rfl) d2
   simp [go_sem, Flow.yl_value, Flow.yl_skip, Flow.yl_enter, hc0, hf0, e12, z1, hC67']
   exact hK g wz hC (fun _ _ => rfl)
  ·intro g L wz K ρ hc0 hf0 hF hO hi hd hC hK
   have e1 : ρ (.tmp 1) = .pointer (some ⟨w.heap.size, 0, none⟩) := hO 1 (by kernel_rfl)
   simp [go_sem, Flow.yl_value, Flow.yl_skip, Flow.yl_enter, hc0, hf0, e1]
   exact hK g wz hC (fun _ _ => rfl)
  ·intro g L wz K ρ hc0 hf0 hF hO hi hd hC hK
   have d4 : L 4 = true := hd ⟨4, .data⟩ (by simp) rfl
   have e14 : ρ (.tmp 14) = .pointer (some ⟨w.heap.size, 1, none⟩) := hF 14 4 (by kernel_rfl) d4
   have cc := (hC.bel.cell (cell_lt k1)).trans k1
   simp [go_sem, Flow.yl_value, Flow.yl_skip, Flow.yl_enter, hc0, hf0, e14, cc]
   exact hK g wz hC (fun _ _ => rfl)
  ·intro g L wz K ρ hc0 hf0 hF hO hi hd hC hK
   have d5 : L 5 = true := hd ⟨5, .data⟩ (by simp) rfl
   have e15 : ρ (.tmp 15) = .int .i64 (T : Int) := hF 15 5 (by kernel_rfl) d5
   simp [go_sem, Flow.yl_value, Flow.yl_skip, Flow.yl_enter, hc0, hf0, e15, UT]
   exact hK g wz hC (fun _ _ => rfl)
  ·intro g L wz K ρ hc0 hf0 hF hO hi hd hC hK
   have d6 : L 6 = true := hd ⟨6, .data⟩ (by simp) rfl
   have e16 : ρ (.tmp 16) = .int .u64 (T : Int) := hF 16 6 (by kernel_rfl) d6
   simp [go_sem, Flow.yl_value, Flow.yl_skip, Flow.yl_enter, hc0, hf0, e16]
   refine (rvary_any T wz pT).mono ?_
   rintro r wn ⟨rfl, hbn⟩
   have hE : (⟨(vput T).toArray⟩ : ByteArray) = PT := HPT.out.symm
   rw [hE]
   exact ⟨_, rfl, hK g wn (hC.grow hbn) (fun _ _ => rfl)⟩
  ·intro g L wz K ρ hc0 hf0 hF hO hi hd hC hK
   have d3 : L 3 = true := hd ⟨3, .data⟩ (by simp) rfl
   have e13 : ρ (.tmp 13) = .string (C ++ F) := hF 13 3 (by kernel_rfl) d3
   have d7 : L 7 = true := hd ⟨7, .data⟩ (by simp) rfl
   have e17 : ρ (.tmp 17) = .string PT := hF 17 7 (by kernel_rfl) d7
   simp [go_sem, Flow.yl_value, Flow.yl_skip, Flow.yl_enter, hc0, hf0, e13, e17, z2]
   exact hK g wz hC (fun _ _ => rfl)
  ·intro g L wz K ρ hc0 hf0 hF hO hi hd hC hK
   have e1 : ρ (.tmp 1) = .pointer (some ⟨w.heap.size, 0, none⟩) := hO 1 (by kernel_rfl)
   simp [go_sem, Flow.yl_value, Flow.yl_skip, Flow.yl_enter, hc0, hf0, e1]
   exact hK g wz hC (fun _ _ => rfl)
  ·intro g L wz K ρ hc0 hf0 hF hO hi hd hC hK
   have d9 : L 9 = true := hd ⟨9, .data⟩ (by simp) rfl
   have e19 : ρ (.tmp 19) = .pointer (some ⟨w.heap.size, 2, none⟩) := hF 19 9 (by kernel_rfl) d9
   have cc := (hC.bel.cell (cell_lt k2)).trans k2
   simp [go_sem, Flow.yl_value, Flow.yl_skip, Flow.yl_enter, hc0, hf0, e19, cc]
   exact hK g wz hC (fun _ _ => rfl)
  ·intro g L wz K ρ hc0 hf0 hF hO hi hd hC hK
   have d10 : L 10 = true := hd ⟨10, .data⟩ (by simp) rfl
   have e20 : ρ (.tmp 20) = .int .i64 (A : Int) := hF 20 10 (by kernel_rfl) d10
   simp [go_sem, Flow.yl_value, Flow.yl_skip, Flow.yl_enter, hc0, hf0, e20, UA]
   exact hK g wz hC (fun _ _ => rfl)
  ·intro g L wz K ρ hc0 hf0 hF hO hi hd hC hK
   have d11 : L 11 = true := hd ⟨11, .data⟩ (by simp) rfl
   have e21 : ρ (.tmp 21) = .int .u64 (A : Int) := hF 21 11 (by kernel_rfl) d11
   simp [go_sem, Flow.yl_value, Flow.yl_skip, Flow.yl_enter, hc0, hf0, e21]
   refine (rvary_any A wz pA).mono ?_
   rintro r wn ⟨rfl, hbn⟩
   have hE : (⟨(vput A).toArray⟩ : ByteArray) = PA := HPA.out.symm
   rw [hE]
   exact ⟨_, rfl, hK g wn (hC.grow hbn) (fun _ _ => rfl)⟩
  ·intro g L wz K ρ hc0 hf0 hF hO hi hd hC hK
   have d8 : L 8 = true := hd ⟨8, .data⟩ (by simp) rfl
   have e18 : ρ (.tmp 18) = .string (C ++ F ++ PT) := hF 18 8 (by kernel_rfl) d8
   have d12 : L 12 = true := hd ⟨12, .data⟩ (by simp) rfl
   have e22 : ρ (.tmp 22) = .string PA := hF 22 12 (by kernel_rfl) d12
   simp [go_sem, Flow.yl_value, Flow.yl_skip, Flow.yl_enter, hc0, hf0, e18, e22, z3]
   exact hK g wz hC (fun _ _ => rfl)
  ·intro g L wz K ρ hc0 hf0 hF hO hi hd hC hK
   have e1 : ρ (.tmp 1) = .pointer (some ⟨w.heap.size, 0, none⟩) := hO 1 (by kernel_rfl)
   simp [go_sem, Flow.yl_value, Flow.yl_skip, Flow.yl_enter, hc0, hf0, e1]
   exact hK g wz hC (fun _ _ => rfl)
  ·intro g L wz K ρ hc0 hf0 hF hO hi hd hC hK
   have d14 : L 14 = true := hd ⟨14, .data⟩ (by simp) rfl
   have e24 : ρ (.tmp 24) = .pointer (some ⟨w.heap.size, 3, none⟩) := hF 24 14 (by kernel_rfl) d14
   have cc := (hC.bel.cell (cell_lt k3)).trans k3
   simp [go_sem, Flow.yl_value, Flow.yl_skip, Flow.yl_enter, hc0, hf0, e24, cc]
   exact hK g wz hC (fun _ _ => rfl)
  ·intro g L wz K ρ hc0 hf0 hF hO hi hd hC hK
   have d13 : L 13 = true := hd ⟨13, .data⟩ (by simp) rfl
   have e23 : ρ (.tmp 23) = .string (C ++ F ++ PT ++ PA) := hF 23 13 (by kernel_rfl) d13
   have d15 : L 15 = true := hd ⟨15, .data⟩ (by simp) rfl
   have e25 : ρ (.tmp 25) = .string d := hF 25 15 (by kernel_rfl) d15
   simp [go_sem, Flow.yl_value, Flow.yl_skip, Flow.yl_enter, hc0, hf0, e23, e25, z4]
   exact hK g wz hC (fun _ _ => rfl)
  ·intro g L wz K ρ hc0 hf0 hF hO hi hd hC hK
   have d16 : L 16 = true := hd ⟨16, .data⟩ (by simp) rfl
   have e26 : ρ (.tmp 26) = .string (C ++ F ++ PT ++ PA ++ d) := hF 26 16 (by kernel_rfl) d16
   simp [go_sem, Flow.yl_value, Flow.yl_skip, Flow.yl_enter, hc0, hf0, e26]
   refine (rseal_any _ wz HS.out).mono ?_
   rintro r wn ⟨rfl, hbn⟩
   rw [← HZZ.out]
   exact ⟨_, rfl, hK g wn (hC.grow hbn) (fun _ _ => rfl)⟩
  ·intro g L wz K ρ hc0 hf0 hF hO hi hd hC hK
   have d17 : L 17 = true := hd ⟨17, .data⟩ (by simp) rfl
   have e27 : ρ (.tmp 27) = .string Z := hF 27 17 (by kernel_rfl) d17
   simp [go_sem, Flow.yl_value, Flow.yl_skip, Flow.yl_enter, hc0, hf0, e27]
   exact hK g wz hC (fun _ _ => rfl)
  ·intro g L wz K ρ hc0 hf0 hF hO hi hd hC hK
   simp [go_sem, Flow.yl_value, Flow.yl_skip, Flow.yl_enter, hc0, hf0]
   exact hK g wz hC (fun _ _ => rfl)
  ·intro g L wz hL hC
   have hbF := hC.bel
   simp only [Flow.putAll, rcV]
   go_wp2
   go_ret2
   refine ⟨?_, b1.trans (hbF.mono b1.size)⟩
   simp [go_sem, HZ.out]
 ·have hr := Lib.hid (chkOf_bad (x := (m, t, a, d)) hz)
  rw [hr.out]
  have hv : (chkRight t a d.size != 0) = true := by rw [bne_iff_ne]; exact hz
  have HZ := Lib.hid hz
  clear hz
  go_enter Tryz.func54, Tryz.ntmps54
  go_wp2_with fail
  refine (rckright_any _ _ _ _ _ (by omega)).mono ?_
  rintro r w1 ⟨rfl, hb1⟩
  have b1 := b0.trans (hb1.mono b0.size)
  clear c0 c1 c2 c3 HW
  go_wp2
  go_ret2
  exact ⟨rfl, b1⟩
end Go.Proofs.YtfefpcdgflgaeaaGreatDoor
end

section
namespace Go.Proofs.YtfefpcdgflgaeaaGreatDoor
set_option linter.unusedSimpArgs false
set_option linter.unusedVariables false
open Go.RowKit As Go.Maps
def markN (n t : Nat) : Nat := if t = 0 then n else n + 1
theorem w_u64 {n : Nat} (h : n ≤ 1000000000) : IntKind.u64.wrap (n : Int) = (n : Int) := by rw [IntKind.wrap_u64]; omega
def pmV (Z : PLoc) (s : Rst) (N : Nat) (PM F PT PF Cc : ByteArray) (g : Nat) : Nat → Value
 | 0 => .pointer (some ⟨Z.r, 0, none⟩)
 | 1 => .pointer (some ⟨Z.r, 0, none⟩)
 | 2 => .pointer (some ⟨Z.r, 7, none⟩)
 | 3 => .int .i64 (s.mks : Int)
 | 4 => .int .u64 (s.mks : Int)
 | 5 => .string PM
 | 6 => .string (Cc ++ PM)
 | 7 => .int .u32 (N : Int)
 | 8 => .int .u8 (IntKind.u8.wrap (N : Int))
 | 9 => .int .u32 (N : Int)
 | 10 => .int .u32 ((N : Int) / 256)
 | 11 => .int .u8 (IntKind.u8.wrap ((N : Int) / 256))
 | 12 => .int .u32 (N : Int)
 | 13 => .int .u32 ((N : Int) / 65536)
 | 14 => .int .u8 (IntKind.u8.wrap ((N : Int) / 65536))
 | 15 => .int .u32 (N : Int)
 | 16 => .int .u32 ((N : Int) / 16777216)
 | 17 => .int .u8 (IntKind.u8.wrap ((N : Int) / 16777216))
 | 18 => .slice (some ⟨g, 0, none⟩) 4 4
 | 19 => .string F
 | 20 => .string (Cc ++ PM ++ F)
 | 21 => .pointer (some ⟨Z.r, 0, none⟩)
 | 22 => .pointer (some ⟨Z.r, 0, none⟩)
 | 23 => .pointer (some ⟨Z.r, 2, none⟩)
 | 24 => .int .i64 (s.tot : Int)
 | 25 => .int .u64 (s.tot : Int)
 | 26 => .string PT
 | 27 => .string (Cc ++ PM ++ F ++ PT)
 | 28 => .pointer (some ⟨Z.r, 0, none⟩)
 | 29 => .pointer (some ⟨Z.r, 0, none⟩)
 | 30 => .pointer (some ⟨Z.r, 6, none⟩)
 | 31 => .int .i64 (s.sf : Int)
 | 32 => .int .u64 (s.sf : Int)
 | 33 => .string PF
 | 34 => .string (Cc ++ PM ++ F ++ PT ++ PF)
 | 35 => .string (Cc ++ PM ++ F ++ PT ++ PF)
 | _ => undef
def pnV (Z : PLoc) (s : Rst) (q : Nat) (BB ZZ : ByteArray) (g : Unit) : Nat → Value
 | 0 => .pointer (some ⟨Z.r, 0, none⟩)
 | 1 => .pointer (some ⟨Z.r, 0, none⟩)
 | 2 => .pointer (some ⟨Z.r, 0, none⟩)
 | 3 => .pointer (some ⟨Z.d, 0, none⟩)
 | 4 => .pointer (some ⟨Z.r, 0, none⟩)
 | 5 => .pointer (some ⟨Z.r, 0, none⟩)
 | 6 => .pointer (some ⟨Z.r, 7, none⟩)
 | 7 => .int .i64 (s.mks : Int)
 | 8 => .int .i64 (q : Int)
 | 9 => .string BB
 | 10 => .string ZZ
 | 11 => .nilIface
 | _ => undef
set_option maxHeartbeats 2000000 in
set_option maxRecDepth 100000 in
theorem pmark_any {w : World} {E : Nat} {Z : PLoc} {s : Rst} (h : PR w E Z s) (hE : E + 1 ≤ 1000000) :
  Calls Tryz.prog 15 #[.pointer (some ⟨Z.r, 0, none⟩)] w fun e w' => e = .returned (.tuple #[]) ∧ PR w' (E + 1) { Z with n := markN Z.n s.tot } s.mark ∧ Turned Z.foot w w' := by
 have c2 := h.cell 2 rfl
 by_cases h0 : s.tot = 0
 ·have t0 : ((s.tot : Int) == 0) = true := by rw [h0]; rfl
  have e1 := Lib.hid (show s.mark = s by unfold Rst.mark; rw [if_pos h0])
  have e2 := Lib.hid (show markN Z.n s.tot = Z.n by unfold markN; rw [if_pos h0])
  have h' := h.more (K' := E + 1) (by omega) hE
  clear h0
  go_enter Tryz.func15, Tryz.ntmps15
  go_wp2
  refine bodyPost_ret (results_none rfl _ _ _) rfl ?_
  rw [e1.out, e2.out]
  exact ⟨rfl, h', .refl _ _⟩
 have t0 : ((s.tot : Int) == 0) = false := beq_eq_false_iff_ne.2 (by omega)
 have HE := Lib.hid (show { s with X := upd s.X (s.mks % 2) (recS s.mks s.nm s.tot s.sf), mks := s.mks + 1 } = s.mark by unfold Rst.mark; rw [if_neg h0])
 have e2 := Lib.hid (show markN Z.n s.tot = Z.n + 1 by unfold markN; rw [if_neg h0])
 have HFM := Lib.hid (h.fit.mark hE)
 have c0 := h.cell 0 rfl
 have c1 := h.cell 1 rfl
 have lm := h.fit.mks
 have lk := h.fit.k
 have lt := h.fit.tot
 have lf : s.sf ≤ 4096 := Nat.le_trans h.fit.sf (Nat.le_trans h.fit.sv_le lt)
 have ln := h.fit.nm
 have hEE : s.mks ≤ 1000000 := by omega
 have UM := w_u64 (n := s.mks) (by omega)
 have UT := w_u64 (n := s.tot) (by omega)
 have UF := w_u64 (n := s.sf) (by omega)
 have lPM := vput_le3 hEE
 have lPT := vput_le2 lt
 have lPF := vput_le2 lf
 rw [← strOf_size] at lPM lPT lPF
 obtain ⟨N, hN⟩ : ∃ N, N = s.nm := ⟨_, rfl⟩
 have lF := four_size N
 obtain ⟨PM, hPM⟩ : ∃ x, x = strOf (vput s.mks) := ⟨_, rfl⟩
 obtain ⟨PT, hPT⟩ : ∃ x, x = strOf (vput s.tot) := ⟨_, rfl⟩
 obtain ⟨PF, hPF⟩ : ∃ x, x = strOf (vput s.sf) := ⟨_, rfl⟩
 obtain ⟨F, hF⟩ : ∃ x, x = four N := ⟨_, rfl⟩
 obtain ⟨Cc, hC0⟩ : ∃ x, x = strOf [82] := ⟨_, rfl⟩
 have lC : Cc.size = 1 := hC0 ▸ rfl
 have hC82 : (⟨#[82]⟩ : ByteArray) = Cc := by rw [hC0]
 rw [← hPM] at lPM
 rw [← hPT] at lPT
 rw [← hPF] at lPF
 rw [← hF] at lF
 rw [← hN] at c1
 have z1 : ¬ 9223372036854775807 < Cc.size + PM.size := by omega
 have z2 : ¬ 9223372036854775807 < (Cc ++ PM).size + F.size := by rw [ByteArray.size_append]; omega
 have z3 : ¬ 9223372036854775807 < (Cc ++ PM ++ F).size + PT.size := by rw [ByteArray.size_append, ByteArray.size_append]; omega
 have z4 : ¬ 9223372036854775807 < (Cc ++ PM ++ F ++ PT).size + PF.size := by rw [ByteArray.size_append, ByteArray.size_append, ByteArray.size_append]; omega
 have HBs0 := Lib.hid (show (Cc ++ PM ++ F ++ PT ++ PF).size ≤ 1000 by rw [ByteArray.size_append, ByteArray.size_append, ByteArray.size_append, ByteArray.size_append]; omega)
 simp only [ByteArray.size_append] at z2 z3 z4
 have HB0 := Lib.hid (show Cc ++ PM ++ F ++ PT ++ PF = recB s.mks s.nm s.tot s.sf by unfold recB; rw [hC0, hPM, hF, hPT, hPF, hN])
 have HPM := Lib.hid hPM
 have HPT := Lib.hid hPT
 have HPF := Lib.hid hPF
 have HF := Lib.hid hF
 have HN0 := Lib.hid hN
 clear hPM hPT hPF hF hC0 hN h0
 go_enter Tryz.func15, Tryz.ntmps15
 go_wp2
 refine Flow.wp_region_go (by kernel_rfl) (by kernel_rfl) (by kernel_rfl) 67 rfl (by kernel_rfl) (pmV Z s N PM F PT PF Cc) (fun g L wz => CI w N g (L 18) wz) (fun _ _ => False) (0) (⟨(Below.refl _ _).drew, fun h => (by cases h)⟩) ⟨?_, ?_, ?_, ?_, ?_, ?_, ?_, ?_, ?_, ?_, ?_, ?_, ?_, ?_, ?_, ?_, ?_, ?_, ?_, ?_, ?_, ?_, ?_, ?_, ?_, ?_, ?_, ?_, ?_, ?_, ?_, ?_, ?_, ?_, ?_, ?_, trivial⟩ ?_ ?_
 ·intro g L wz K ρ hc0 hf0 hF hO hU hcl hi hd hC hK
  have e0 : ρ (.tmp 0) = .pointer (some ⟨Z.r, 0, none⟩) := hO 0 (by kernel_rfl)
  simp [go_sem, Flow.ylP_value, Flow.ylP_skip, Flow.ylP_enter, Flow.ylP_panic, hc0, hf0, e0]
  exact hK g wz hC (fun _ _ => rfl)
 ·intro g L wz K ρ hc0 hf0 hF hO hU hcl hi hd hC hK
  have d0 : L 0 = true := hd ⟨0, .data⟩ (by simp) rfl
  have e13 : ρ (.tmp 13) = .pointer (some ⟨Z.r, 0, none⟩) := hF 13 0 (by kernel_rfl) d0
  simp [go_sem, Flow.ylP_value, Flow.ylP_skip, Flow.ylP_enter, Flow.ylP_panic, hc0, hf0, e13]
  exact hK g wz hC (fun _ _ => rfl)
 ·intro g L wz K ρ hc0 hf0 hF hO hU hcl hi hd hC hK
  have d1 : L 1 = true := hd ⟨1, .data⟩ (by simp) rfl
  have e14 : ρ (.tmp 14) = .pointer (some ⟨Z.r, 0, none⟩) := hF 14 1 (by kernel_rfl) d1
  simp [go_sem, Flow.ylP_value, Flow.ylP_skip, Flow.ylP_enter, Flow.ylP_panic, hc0, hf0, e14]
  exact hK g wz hC (fun _ _ => rfl)
 ·intro g L wz K ρ hc0 hf0 hF hO hU hcl hi hd hC hK
  have d2 : L 2 = true := hd ⟨2, .data⟩ (by simp) rfl
  have e15 : ρ (.tmp 15) = .pointer (some ⟨Z.r, 7, none⟩) := hF 15 2 (by kernel_rfl) d2
  have cc := (h.below hC.bel).cell 7 rfl
  simp [go_sem, Flow.ylP_value, Flow.ylP_skip, Flow.ylP_enter, Flow.ylP_panic, hc0, hf0, e15, cc]
  exact hK g wz hC (fun _ _ => rfl)
 ·intro g L wz K ρ hc0 hf0 hF hO hU hcl hi hd hC hK
  have d3 : L 3 = true := hd ⟨3, .data⟩ (by simp) rfl
  have e16 : ρ (.tmp 16) = .int .i64 (s.mks : Int) := hF 16 3 (by kernel_rfl) d3
  simp [go_sem, Flow.ylP_value, Flow.ylP_skip, Flow.ylP_enter, Flow.ylP_panic, hc0, hf0, e16, UM]
  exact hK g wz hC (fun _ _ => rfl)
 ·intro g L wz K ρ hc0 hf0 hF hO hU hcl hi hd hC hK
  have d4 : L 4 = true := hd ⟨4, .data⟩ (by simp) rfl
  have e17 : ρ (.tmp 17) = .int .u64 (s.mks : Int) := hF 17 4 (by kernel_rfl) d4
  simp [go_sem, Flow.ylP_value, Flow.ylP_skip, Flow.ylP_enter, Flow.ylP_panic, hc0, hf0, e17]
  refine (vput_any s.mks _ (by omega)).mono ?_
  rintro r wn ⟨rfl, hbn⟩
  rw [show (⟨(vput s.mks).toArray⟩ : ByteArray) = PM from HPM.out.symm]
  exact ⟨_, rfl, hK g wn (hC.grow hbn) (by intro j hj; unfold pmV; split <;> first | rfl | (rw [hi] at hj; cases hj) | (have hz := hcl _ 5 (by kernel_rfl) hj; rw [hi] at hz; cases hz))⟩
 ·intro g L wz K ρ hc0 hf0 hF hO hU hcl hi hd hC hK
  have d5 : L 5 = true := hd ⟨5, .data⟩ (by simp) rfl
  have e18 : ρ (.tmp 18) = .string PM := hF 18 5 (by kernel_rfl) d5
  simp [go_sem, Flow.ylP_value, Flow.ylP_skip, Flow.ylP_enter, Flow.ylP_panic, hc0, hf0, e18, hC82, z1]
  exact hK g wz hC (fun _ _ => rfl)
 ·intro g L wz K ρ hc0 hf0 hF hO hU hcl hi hd hC hK
  have e2 : ρ (.tmp 2) = .int .u32 (N : Int) := hO 2 (by kernel_rfl)
  simp [go_sem, Flow.ylP_value, Flow.ylP_skip, Flow.ylP_enter, Flow.ylP_panic, hc0, hf0, e2]
  exact hK g wz hC (fun _ _ => rfl)
 ·intro g L wz K ρ hc0 hf0 hF hO hU hcl hi hd hC hK
  have d7 : L 7 = true := hd ⟨7, .data⟩ (by simp) rfl
  have e20 : ρ (.tmp 20) = .int .u32 (N : Int) := hF 20 7 (by kernel_rfl) d7
  simp [go_sem, Flow.ylP_value, Flow.ylP_skip, Flow.ylP_enter, Flow.ylP_panic, hc0, hf0, e20]
  exact hK g wz hC (fun _ _ => rfl)
 ·intro g L wz K ρ hc0 hf0 hF hO hU hcl hi hd hC hK
  have e2 : ρ (.tmp 2) = .int .u32 (N : Int) := hO 2 (by kernel_rfl)
  simp [go_sem, Flow.ylP_value, Flow.ylP_skip, Flow.ylP_enter, Flow.ylP_panic, hc0, hf0, e2]
  exact hK g wz hC (fun _ _ => rfl)
 ·intro g L wz K ρ hc0 hf0 hF hO hU hcl hi hd hC hK
  have d9 : L 9 = true := hd ⟨9, .data⟩ (by simp) rfl
  have e22 : ρ (.tmp 22) = .int .u32 (N : Int) := hF 22 9 (by kernel_rfl) d9
  simp [go_sem, Flow.ylP_value, Flow.ylP_skip, Flow.ylP_enter, Flow.ylP_panic, hc0, hf0, e22]
  exact hK g wz hC (fun _ _ => rfl)
 ·intro g L wz K ρ hc0 hf0 hF hO hU hcl hi hd hC hK
  have d10 : L 10 = true := hd ⟨10, .data⟩ (by simp) rfl
  have e23 : ρ (.tmp 23) = .int .u32 ((N : Int) / 256) := hF 23 10 (by kernel_rfl) d10
  simp [go_sem, Flow.ylP_value, Flow.ylP_skip, Flow.ylP_enter, Flow.ylP_panic, hc0, hf0, e23]
  exact hK g wz hC (fun _ _ => rfl)
 ·intro g L wz K ρ hc0 hf0 hF hO hU hcl hi hd hC hK
  have e2 : ρ (.tmp 2) = .int .u32 (N : Int) := hO 2 (by kernel_rfl)
  simp [go_sem, Flow.ylP_value, Flow.ylP_skip, Flow.ylP_enter, Flow.ylP_panic, hc0, hf0, e2]
  exact hK g wz hC (fun _ _ => rfl)
 ·intro g L wz K ρ hc0 hf0 hF hO hU hcl hi hd hC hK
  have d12 : L 12 = true := hd ⟨12, .data⟩ (by simp) rfl
  have e25 : ρ (.tmp 25) = .int .u32 (N : Int) := hF 25 12 (by kernel_rfl) d12
  simp [go_sem, Flow.ylP_value, Flow.ylP_skip, Flow.ylP_enter, Flow.ylP_panic, hc0, hf0, e25]
  exact hK g wz hC (fun _ _ => rfl)
 ·intro g L wz K ρ hc0 hf0 hF hO hU hcl hi hd hC hK
  have d13 : L 13 = true := hd ⟨13, .data⟩ (by simp) rfl
  have e26 : ρ (.tmp 26) = .int .u32 ((N : Int) / 65536) := hF 26 13 (by kernel_rfl) d13
  simp [go_sem, Flow.ylP_value, Flow.ylP_skip, Flow.ylP_enter, Flow.ylP_panic, hc0, hf0, e26]
  exact hK g wz hC (fun _ _ => rfl)
 ·intro g L wz K ρ hc0 hf0 hF hO hU hcl hi hd hC hK
  have e2 : ρ (.tmp 2) = .int .u32 (N : Int) := hO 2 (by kernel_rfl)
  simp [go_sem, Flow.ylP_value, Flow.ylP_skip, Flow.ylP_enter, Flow.ylP_panic, hc0, hf0, e2]
  exact hK g wz hC (fun _ _ => rfl)
 ·intro g L wz K ρ hc0 hf0 hF hO hU hcl hi hd hC hK
  have d15 : L 15 = true := hd ⟨15, .data⟩ (by simp) rfl
  have e28 : ρ (.tmp 28) = .int .u32 (N : Int) := hF 28 15 (by kernel_rfl) d15
  simp [go_sem, Flow.ylP_value, Flow.ylP_skip, Flow.ylP_enter, Flow.ylP_panic, hc0, hf0, e28]
  exact hK g wz hC (fun _ _ => rfl)
 ·intro g L wz K ρ hc0 hf0 hF hO hU hcl hi hd hC hK
  have d16 : L 16 = true := hd ⟨16, .data⟩ (by simp) rfl
  have e29 : ρ (.tmp 29) = .int .u32 ((N : Int) / 16777216) := hF 29 16 (by kernel_rfl) d16
  simp [go_sem, Flow.ylP_value, Flow.ylP_skip, Flow.ylP_enter, Flow.ylP_panic, hc0, hf0, e29]
  exact hK g wz hC (fun _ _ => rfl)
 ·intro g L wz K ρ hc0 hf0 hF hO hU hcl hi hd hC hK
  have d8 : L 8 = true := hd ⟨8, .data⟩ (by simp) rfl
  have e21 : ρ (.tmp 21) = .int .u8 (IntKind.u8.wrap (N : Int)) := hF 21 8 (by kernel_rfl) d8
  have d11 : L 11 = true := hd ⟨11, .data⟩ (by simp) rfl
  have e24 : ρ (.tmp 24) = .int .u8 (IntKind.u8.wrap ((N : Int) / 256)) := hF 24 11 (by kernel_rfl) d11
  have d14 : L 14 = true := hd ⟨14, .data⟩ (by simp) rfl
  have e27 : ρ (.tmp 27) = .int .u8 (IntKind.u8.wrap ((N : Int) / 65536)) := hF 27 14 (by kernel_rfl) d14
  have d17 : L 17 = true := hd ⟨17, .data⟩ (by simp) rfl
  have e30 : ρ (.tmp 30) = .int .u8 (IntKind.u8.wrap ((N : Int) / 16777216)) := hF 30 17 (by kernel_rfl) d17
  simp [go_sem, Flow.ylP_value, Flow.ylP_skip, Flow.ylP_enter, Flow.ylP_panic, hc0, hf0, e21, e24, e27, e30]
  have h19 : L 19 = false := by cases h : L 19 with | false => rfl | true => (have := hcl 19 18 (by kernel_rfl) h; rw [hi] at this; cases this)
  refine hK wz.heap.size _ ?_ (by intro j hj; unfold pmV; split <;> first | rfl | (rw [hi] at hj; cases hj) | (have hz := hcl _ 18 (by kernel_rfl) hj; rw [hi] at hz; cases hz))
  exact hC.build (four_cells N)
 ·intro g L wz K ρ hc0 hf0 hF hO hU hcl hi hd hC hK
  have d18 : L 18 = true := hd ⟨18, .data⟩ (by simp) rfl
  have e31 : ρ (.tmp 31) = .slice (some ⟨g, 0, none⟩) 4 4 := hF 31 18 (by kernel_rfl) d18
  have hcv := hC.str d18 (P := Tryz.prog) 69 5 9 Tryz.underlying69 Tryz.underlying5 Tryz.underlying9
  rw [show four N = F from HF.out.symm] at hcv
  unfold execOp
  simp only [resolve, Sem.run_bind, Sem.run_pure, Result.andThen_ok, e31, hcv]
  exact hK g wz hC (fun _ _ => rfl)
 ·intro g L wz K ρ hc0 hf0 hF hO hU hcl hi hd hC hK
  have d6 : L 6 = true := hd ⟨6, .data⟩ (by simp) rfl
  have e19 : ρ (.tmp 19) = .string (Cc ++ PM) := hF 19 6 (by kernel_rfl) d6
  have d19 : L 19 = true := hd ⟨19, .data⟩ (by simp) rfl
  have e32 : ρ (.tmp 32) = .string F := hF 32 19 (by kernel_rfl) d19
  simp [go_sem, Flow.ylP_value, Flow.ylP_skip, Flow.ylP_enter, Flow.ylP_panic, hc0, hf0, e19, e32, z2]
  exact hK g wz hC (fun _ _ => rfl)
 ·intro g L wz K ρ hc0 hf0 hF hO hU hcl hi hd hC hK
  have e0 : ρ (.tmp 0) = .pointer (some ⟨Z.r, 0, none⟩) := hO 0 (by kernel_rfl)
  simp [go_sem, Flow.ylP_value, Flow.ylP_skip, Flow.ylP_enter, Flow.ylP_panic, hc0, hf0, e0]
  exact hK g wz hC (fun _ _ => rfl)
 ·intro g L wz K ρ hc0 hf0 hF hO hU hcl hi hd hC hK
  have d21 : L 21 = true := hd ⟨21, .data⟩ (by simp) rfl
  have e34 : ρ (.tmp 34) = .pointer (some ⟨Z.r, 0, none⟩) := hF 34 21 (by kernel_rfl) d21
  simp [go_sem, Flow.ylP_value, Flow.ylP_skip, Flow.ylP_enter, Flow.ylP_panic, hc0, hf0, e34]
  exact hK g wz hC (fun _ _ => rfl)
 ·intro g L wz K ρ hc0 hf0 hF hO hU hcl hi hd hC hK
  have d22 : L 22 = true := hd ⟨22, .data⟩ (by simp) rfl
  have e35 : ρ (.tmp 35) = .pointer (some ⟨Z.r, 0, none⟩) := hF 35 22 (by kernel_rfl) d22
  simp [go_sem, Flow.ylP_value, Flow.ylP_skip, Flow.ylP_enter, Flow.ylP_panic, hc0, hf0, e35]
  exact hK g wz hC (fun _ _ => rfl)
 ·intro g L wz K ρ hc0 hf0 hF hO hU hcl hi hd hC hK
  have d23 : L 23 = true := hd ⟨23, .data⟩ (by simp) rfl
  have e36 : ρ (.tmp 36) = .pointer (some ⟨Z.r, 2, none⟩) := hF 36 23 (by kernel_rfl) d23
  have cc := (h.below hC.bel).cell 2 rfl
  simp [go_sem, Flow.ylP_value, Flow.ylP_skip, Flow.ylP_enter, Flow.ylP_panic, hc0, hf0, e36, cc]
  exact hK g wz hC (fun _ _ => rfl)
 ·intro g L wz K ρ hc0 hf0 hF hO hU hcl hi hd hC hK
  have d24 : L 24 = true := hd ⟨24, .data⟩ (by simp) rfl
  have e37 : ρ (.tmp 37) = .int .i64 (s.tot : Int) := hF 37 24 (by kernel_rfl) d24
  simp [go_sem, Flow.ylP_value, Flow.ylP_skip, Flow.ylP_enter, Flow.ylP_panic, hc0, hf0, e37, UT]
  exact hK g wz hC (fun _ _ => rfl)
 ·intro g L wz K ρ hc0 hf0 hF hO hU hcl hi hd hC hK
  have d25 : L 25 = true := hd ⟨25, .data⟩ (by simp) rfl
  have e38 : ρ (.tmp 38) = .int .u64 (s.tot : Int) := hF 38 25 (by kernel_rfl) d25
  simp [go_sem, Flow.ylP_value, Flow.ylP_skip, Flow.ylP_enter, Flow.ylP_panic, hc0, hf0, e38]
  refine (vput_any s.tot _ (by omega)).mono ?_
  rintro r wn ⟨rfl, hbn⟩
  rw [show (⟨(vput s.tot).toArray⟩ : ByteArray) = PT from HPT.out.symm]
  exact ⟨_, rfl, hK g wn (hC.grow hbn) (by intro j hj; unfold pmV; split <;> first | rfl | (rw [hi] at hj; cases hj) | (have hz := hcl _ 26 (by kernel_rfl) hj; rw [hi] at hz; cases hz))⟩
 ·intro g L wz K ρ hc0 hf0 hF hO hU hcl hi hd hC hK
  have d20 : L 20 = true := hd ⟨20, .data⟩ (by simp) rfl
  have e33 : ρ (.tmp 33) = .string (Cc ++ PM ++ F) := hF 33 20 (by kernel_rfl) d20
  have d26 : L 26 = true := hd ⟨26, .data⟩ (by simp) rfl
  have e39 : ρ (.tmp 39) = .string PT := hF 39 26 (by kernel_rfl) d26
  simp [go_sem, Flow.ylP_value, Flow.ylP_skip, Flow.ylP_enter, Flow.ylP_panic, hc0, hf0, e33, e39, z3]
  exact hK g wz hC (fun _ _ => rfl)
 ·intro g L wz K ρ hc0 hf0 hF hO hU hcl hi hd hC hK
  have e0 : ρ (.tmp 0) = .pointer (some ⟨Z.r, 0, none⟩) := hO 0 (by kernel_rfl)
  simp [go_sem, Flow.ylP_value, Flow.ylP_skip, Flow.ylP_enter, Flow.ylP_panic, hc0, hf0, e0]
  exact hK g wz hC (fun _ _ => rfl)
 ·intro g L wz K ρ hc0 hf0 hF hO hU hcl hi hd hC hK
  have d28 : L 28 = true := hd ⟨28, .data⟩ (by simp) rfl
  have e41 : ρ (.tmp 41) = .pointer (some ⟨Z.r, 0, none⟩) := hF 41 28 (by kernel_rfl) d28
  simp [go_sem, Flow.ylP_value, Flow.ylP_skip, Flow.ylP_enter, Flow.ylP_panic, hc0, hf0, e41]
  exact hK g wz hC (fun _ _ => rfl)
 ·intro g L wz K ρ hc0 hf0 hF hO hU hcl hi hd hC hK
  have d29 : L 29 = true := hd ⟨29, .data⟩ (by simp) rfl
  have e42 : ρ (.tmp 42) = .pointer (some ⟨Z.r, 0, none⟩) := hF 42 29 (by kernel_rfl) d29
  simp [go_sem, Flow.ylP_value, Flow.ylP_skip, Flow.ylP_enter, Flow.ylP_panic, hc0, hf0, e42]
  exact hK g wz hC (fun _ _ => rfl)
 ·intro g L wz K ρ hc0 hf0 hF hO hU hcl hi hd hC hK
  have d30 : L 30 = true := hd ⟨30, .data⟩ (by simp) rfl
  have e43 : ρ (.tmp 43) = .pointer (some ⟨Z.r, 6, none⟩) := hF 43 30 (by kernel_rfl) d30
  have cc := (h.below hC.bel).cell 6 rfl
  simp [go_sem, Flow.ylP_value, Flow.ylP_skip, Flow.ylP_enter, Flow.ylP_panic, hc0, hf0, e43, cc]
  exact hK g wz hC (fun _ _ => rfl)
 ·intro g L wz K ρ hc0 hf0 hF hO hU hcl hi hd hC hK
  have d31 : L 31 = true := hd ⟨31, .data⟩ (by simp) rfl
  have e44 : ρ (.tmp 44) = .int .i64 (s.sf : Int) := hF 44 31 (by kernel_rfl) d31
  simp [go_sem, Flow.ylP_value, Flow.ylP_skip, Flow.ylP_enter, Flow.ylP_panic, hc0, hf0, e44, UF]
  exact hK g wz hC (fun _ _ => rfl)
 ·intro g L wz K ρ hc0 hf0 hF hO hU hcl hi hd hC hK
  have d32 : L 32 = true := hd ⟨32, .data⟩ (by simp) rfl
  have e45 : ρ (.tmp 45) = .int .u64 (s.sf : Int) := hF 45 32 (by kernel_rfl) d32
  simp [go_sem, Flow.ylP_value, Flow.ylP_skip, Flow.ylP_enter, Flow.ylP_panic, hc0, hf0, e45]
  refine (vput_any s.sf _ (by omega)).mono ?_
  rintro r wn ⟨rfl, hbn⟩
  rw [show (⟨(vput s.sf).toArray⟩ : ByteArray) = PF from HPF.out.symm]
  exact ⟨_, rfl, hK g wn (hC.grow hbn) (by intro j hj; unfold pmV; split <;> first | rfl | (rw [hi] at hj; cases hj) | (have hz := hcl _ 33 (by kernel_rfl) hj; rw [hi] at hz; cases hz))⟩
 ·intro g L wz K ρ hc0 hf0 hF hO hU hcl hi hd hC hK
  have d27 : L 27 = true := hd ⟨27, .data⟩ (by simp) rfl
  have e40 : ρ (.tmp 40) = .string (Cc ++ PM ++ F ++ PT) := hF 40 27 (by kernel_rfl) d27
  have d33 : L 33 = true := hd ⟨33, .data⟩ (by simp) rfl
  have e46 : ρ (.tmp 46) = .string PF := hF 46 33 (by kernel_rfl) d33
  simp [go_sem, Flow.ylP_value, Flow.ylP_skip, Flow.ylP_enter, Flow.ylP_panic, hc0, hf0, e40, e46, z4]
  exact hK g wz hC (fun _ _ => rfl)
 ·intro g L wz K ρ hc0 hf0 hF hO hU hcl hi hd hC hK
  have d34 : L 34 = true := hd ⟨34, .data⟩ (by simp) rfl
  have e47 : ρ (.tmp 47) = .string (Cc ++ PM ++ F ++ PT ++ PF) := hF 47 34 (by kernel_rfl) d34
  simp [go_sem, Flow.ylP_value, Flow.ylP_skip, Flow.ylP_enter, Flow.ylP_panic, hc0, hf0, e47]
  exact hK g wz hC (fun _ _ => rfl)
 ·intro g L ch wz h; exact h.elim
 ·intro g L wz hL hC
  have hb1 := hC.bel
  clear hC
  simp only [Flow.putAll, pmV]
  simp [Act.put]
  have h1 := h.below hb1
  clear c0 c1 c2 h
  generalize hBB : Cc ++ PM ++ F ++ PT ++ PF = BB at *
  generalize wz = w1 at *
  obtain ⟨q, hq0⟩ : ∃ q, q = s.mks % 2 := ⟨_, rfl⟩
  have hq : (s.mks : Int) % 2 = (q : Int) := by omega
  have hq2 : Int.tmod (s.mks : Int) 2 = (q : Int) := by rw [Int.tmod_eq_emod_of_nonneg (by omega)]; exact hq
  have c0 := h1.cell 0 rfl
  have c7 := h1.cell 7 rfl
  have HN := Lib.hid h1.off.1
  obtain ⟨ZZ, hZZ⟩ : ∃ x, x = sealOf BB := ⟨_, rfl⟩
  have HZ := Lib.hid hZZ
  have HBs : Hid (BB.size ≤ 1000000) := Lib.hid (by have := HBs0.out; omega)
  have HRec := Lib.hid (show padz ZZ = recS s.mks s.nm s.tot s.sf by rw [hZZ, HB0.out]; rfl)
  have hz32 : ZZ.size ≤ 32 := by rw [hZZ, HB0.out]; exact recS_size hEE lt lf
  have HZs : Hid (ZZ.size ≤ 1000000) := Lib.hid (by omega)
  have HL : Hid (Z.n < maxLen) := Lib.hid (by have := h1.cnt; unfold maxLen; omega)
  have E1 := Lib.hid (show dwErr 140 (q : Int) ZZ = 0 by unfold dwErr; rw [if_neg (by omega), if_neg (by omega)])
  have E2 := Lib.hid (show dwX 140 s.X (q : Int) ZZ = upd s.X q (padz ZZ) by unfold dwX; rw [if_pos E1.out]; rfl)
  have h1' := h1.more (K' := E + 1) (by omega) hE
  have HFM' : Hid (RFit (E + 1) { s with X := upd s.X q (padz ZZ) }) := Lib.hid (by have := HFM.out; rw [← HE.out] at this; rw [HRec.out, hq0]; exact ⟨this.d, this.nm, this.tot, this.out, this.sv, this.sf, Nat.le_of_succ_le this.mks, this.k, this.rs, this.rx⟩)
  have HCNT : Hid (Z.n + 1 ≤ 200 * (E + 1)) := Lib.hid (by have := h1.cnt; omega)
  have HS : Hid (({ s with X := upd s.X q (padz ZZ), mks := s.mks + 1 } : Rst) = s.mark) := Lib.hid (by rw [← HE.out, HRec.out, hq0])
  have WM := Lib.hid (w_in ((s.mks : Int) + 1) (s.mks + 1) (by omega) (by omega))
  have hq140 : q < 2 := by omega
  clear h1 hq0 hZZ hz32 z1 z2 z3 z4 lPM lPT lPF lF lC UM UT UF HPM HPT HPF HB0 HN0 HE
  have h1 := h1'
  clear h1'
  go_wp2
  refine Flow.wp_region_go (by kernel_rfl) (by kernel_rfl) (by kernel_rfl) 67 rfl (by kernel_rfl) (pnV Z s q BB ZZ) (fun _ L wz => PD wz Z.d Z.R Z.M 140 Z.c (cond (L 11) (Z.n + 1) Z.n) s.S (cond (L 11) (upd s.X q (padz ZZ)) s.X) ∧ Turned (PFoot Z.R Z.M) w1 wz) (fun _ _ => False) (()) (⟨h1.disk.below (Below.refl _ _).drew, .of_below (Below.refl _ _).drew⟩) ⟨?_, ?_, ?_, ?_, ?_, ?_, ?_, ?_, ?_, ?_, ?_, ?_, trivial⟩ ?_ ?_
  ·intro g L wz K ρ hc0 hf0 hF hO hU hcl hi hd hC hK
   have e0 : ρ (.tmp 0) = .pointer (some ⟨Z.r, 0, none⟩) := hO 0 (by kernel_rfl)
   simp [go_sem, Flow.ylP_value, Flow.ylP_skip, Flow.ylP_enter, Flow.ylP_panic, hc0, hf0, e0]
   exact hK g wz hC (fun _ _ => rfl)
  ·intro g L wz K ρ hc0 hf0 hF hO hU hcl hi hd hC hK
   have d0 : L 0 = true := hd ⟨0, .data⟩ (by simp) rfl
   have e48 : ρ (.tmp 48) = .pointer (some ⟨Z.r, 0, none⟩) := hF 48 0 (by kernel_rfl) d0
   simp [go_sem, Flow.ylP_value, Flow.ylP_skip, Flow.ylP_enter, Flow.ylP_panic, hc0, hf0, e48]
   exact hK g wz hC (fun _ _ => rfl)
  ·intro g L wz K ρ hc0 hf0 hF hO hU hcl hi hd hC hK
   have d1 : L 1 = true := hd ⟨1, .data⟩ (by simp) rfl
   have e49 : ρ (.tmp 49) = .pointer (some ⟨Z.r, 0, none⟩) := hF 49 1 (by kernel_rfl) d1
   simp [go_sem, Flow.ylP_value, Flow.ylP_skip, Flow.ylP_enter, Flow.ylP_panic, hc0, hf0, e49]
   exact hK g wz hC (fun _ _ => rfl)
  ·intro g L wz K ρ hc0 hf0 hF hO hU hcl hi hd hC hK
   have d2 : L 2 = true := hd ⟨2, .data⟩ (by simp) rfl
   have e50 : ρ (.tmp 50) = .pointer (some ⟨Z.r, 0, none⟩) := hF 50 2 (by kernel_rfl) d2
   have cc := hC.2.cell c0 HN.out
   simp [go_sem, Flow.ylP_value, Flow.ylP_skip, Flow.ylP_enter, Flow.ylP_panic, hc0, hf0, e50, cc]
   exact hK g wz hC (fun _ _ => rfl)
  ·intro g L wz K ρ hc0 hf0 hF hO hU hcl hi hd hC hK
   have e0 : ρ (.tmp 0) = .pointer (some ⟨Z.r, 0, none⟩) := hO 0 (by kernel_rfl)
   simp [go_sem, Flow.ylP_value, Flow.ylP_skip, Flow.ylP_enter, Flow.ylP_panic, hc0, hf0, e0]
   exact hK g wz hC (fun _ _ => rfl)
  ·intro g L wz K ρ hc0 hf0 hF hO hU hcl hi hd hC hK
   have d4 : L 4 = true := hd ⟨4, .data⟩ (by simp) rfl
   have e52 : ρ (.tmp 52) = .pointer (some ⟨Z.r, 0, none⟩) := hF 52 4 (by kernel_rfl) d4
   simp [go_sem, Flow.ylP_value, Flow.ylP_skip, Flow.ylP_enter, Flow.ylP_panic, hc0, hf0, e52]
   exact hK g wz hC (fun _ _ => rfl)
  ·intro g L wz K ρ hc0 hf0 hF hO hU hcl hi hd hC hK
   have d5 : L 5 = true := hd ⟨5, .data⟩ (by simp) rfl
   have e53 : ρ (.tmp 53) = .pointer (some ⟨Z.r, 0, none⟩) := hF 53 5 (by kernel_rfl) d5
   simp [go_sem, Flow.ylP_value, Flow.ylP_skip, Flow.ylP_enter, Flow.ylP_panic, hc0, hf0, e53]
   exact hK g wz hC (fun _ _ => rfl)
  ·intro g L wz K ρ hc0 hf0 hF hO hU hcl hi hd hC hK
   have d6 : L 6 = true := hd ⟨6, .data⟩ (by simp) rfl
   have e54 : ρ (.tmp 54) = .pointer (some ⟨Z.r, 7, none⟩) := hF 54 6 (by kernel_rfl) d6
   have cc := hC.2.cell c7 HN.out
   simp [go_sem, Flow.ylP_value, Flow.ylP_skip, Flow.ylP_enter, Flow.ylP_panic, hc0, hf0, e54, cc]
   exact hK g wz hC (fun _ _ => rfl)
  ·intro g L wz K ρ hc0 hf0 hF hO hU hcl hi hd hC hK
   have d7 : L 7 = true := hd ⟨7, .data⟩ (by simp) rfl
   have e55 : ρ (.tmp 55) = .int .i64 (s.mks : Int) := hF 55 7 (by kernel_rfl) d7
   simp [go_sem, Flow.ylP_value, Flow.ylP_skip, Flow.ylP_enter, Flow.ylP_panic, hc0, hf0, e55, hq, hq2]
   exact hK g wz hC (fun _ _ => rfl)
  ·intro g L wz K ρ hc0 hf0 hF hO hU hcl hi hd hC hK
   have e3 : ρ (.tmp 3) = .string BB := hO 3 (by kernel_rfl)
   simp [go_sem, Flow.ylP_value, Flow.ylP_skip, Flow.ylP_enter, Flow.ylP_panic, hc0, hf0, e3]
   exact hK g wz hC (fun _ _ => rfl)
  ·intro g L wz K ρ hc0 hf0 hF hO hU hcl hi hd hC hK
   have d9 : L 9 = true := hd ⟨9, .data⟩ (by simp) rfl
   have e57 : ρ (.tmp 57) = .string BB := hF 57 9 (by kernel_rfl) d9
   simp [go_sem, Flow.ylP_value, Flow.ylP_skip, Flow.ylP_enter, Flow.ylP_panic, hc0, hf0, e57]
   refine (seal_any BB _ HBs.out).mono ?_
   rintro r wn ⟨rfl, hbn⟩
   rw [← HZ.out]
   exact ⟨_, rfl, hK () wn ⟨hC.1.below hbn, hC.2.trans (.of_below hbn)⟩ (by intro j hj; unfold pnV; split <;> first | rfl | (rw [hi] at hj; cases hj) | (have hz := hcl _ 10 (by kernel_rfl) hj; rw [hi] at hz; cases hz))⟩
  ·intro g L wz K ρ hc0 hf0 hF hO hU hcl hi hd hC hK
   have d3 : L 3 = true := hd ⟨3, .data⟩ (by simp) rfl
   have e51 : ρ (.tmp 51) = .pointer (some ⟨Z.d, 0, none⟩) := hF 51 3 (by kernel_rfl) d3
   have d8 : L 8 = true := hd ⟨8, .data⟩ (by simp) rfl
   have e56 : ρ (.tmp 56) = .int .i64 (q : Int) := hF 56 8 (by kernel_rfl) d8
   have d10 : L 10 = true := hd ⟨10, .data⟩ (by simp) rfl
   have e58 : ρ (.tmp 58) = .string ZZ := hF 58 10 (by kernel_rfl) d10
   simp [go_sem, Flow.ylP_value, Flow.ylP_skip, Flow.ylP_enter, Flow.ylP_panic, hc0, hf0, e51, e56, e58]
   simp only [hi, cond_false] at hC
   refine (dwrite_any hC.1 (q : Int) ZZ HZs.out HL.out).mono ?_
   rintro r wn ⟨rfl, hpn, htn⟩
   rw [E1.out]
   rw [E2.out] at hpn
   exact ⟨_, rfl, hK () wn ⟨hpn, hC.2.trans htn⟩ (by intro j hj; unfold pnV; split <;> first | rfl | (rw [hi] at hj; cases hj) | (have hz := hcl _ 11 (by kernel_rfl) hj; rw [hi] at hz; cases hz))⟩
  ·intro g L ch wz h; exact h.elim
  ·intro g L wz hL hC
   rw [hL 11 (by decide)] at hC
   simp only [Flow.putAll, pnV]
   simp [Act.put]
   have h2 := h1.disked hC.1 hC.2 HFM'.out HCNT.out
   have ht2 := hC.2
   clear hC h1 c0 c7 hq hq2
   have c7 := h2.cell 7 rfl
   have f7 := h2.free 7 rfl
   obtain ⟨wm1, wm2⟩ := WM.out
   go_wp2
   go_end0
   have hset : Turned Z.foot wz (wz.setCell ⟨Z.r, 7, none⟩ (.int .i64 ((s.mks : Int) + 1))) := .set wz 7 _ (.inl rfl)
   have hs := h2.stored 7 (.int .i64 ((s.mks : Int) + 1)) { s with X := upd s.X q (padz ZZ), mks := s.mks + 1 } rfl rfl rfl rfl rfl (by omega) (by rw [HS.out]; exact HFM.out)
   rw [HS.out] at hs
   rw [e2.out]
   exact ⟨rfl, hs, ((Turned.of_below hb1).trans (ht2.mono fun i => foot_R)).trans hset⟩
end Go.Proofs.YtfefpcdgflgaeaaGreatDoor
end
