/- chunk.Write and Chunk of the reference say what chkOf says. Printed by gen_chunk.py. -/
import Derived.Test.YtglemfdnfaemiaaDoorChunkRight
import Derived.Test.YtglemfdnfaemiaaDoorFlow
import Derived.Test.YtglemfdnfaemiaaDoorSealWalks
namespace Go.Proofs.YtglemfdnfaemiaaDoor
set_option linter.unusedSimpArgs false
set_option linter.unusedVariables false
open Go.RowKit As
/-- The four bytes, behind the operation that makes them. -/
structure CI (w0 : World) (n g : Nat) (l11 : Bool) (w : World) : Prop where
  bel : Below w0.heap.size w0 w
  tmp : l11 = true → BytesAt w g (lowB 4 n)
theorem CI.grow {w0 w w' : World} {n g : Nat} {l11 : Bool} (h : CI w0 n g l11 w) (hb : Below w.heap.size w w') : CI w0 n g l11 w' :=
  ⟨h.bel.trans (hb.mono h.bel.size), fun h4 => (h.tmp h4).keep hb ((h.tmp h4).lt (by rw [lowB_len]; omega))⟩
theorem bytes_new {w : World} {vs : Array Value} {t : TypeId} {l : List UInt8} (hv : vs = (l.map byteV).toArray) : BytesAt (w.alloc (.cells vs t)) w.heap.size l := by
  subst hv
  intro i hi
  refine ⟨?_, ?_⟩
  · rw [World.cell?_alloc_new]
    simp [List.getElem?_map, List.getElem?_eq_getElem hi]
  · simp only [World.alloc, World.frozen?, Array.getElem?_push_size]
    simp
theorem CI.build {w0 w : World} {n g : Nat} {l11 : Bool} {vs : Array Value} {t : TypeId} (h : CI w0 n g l11 w) (hv : vs = ((lowB 4 n).map byteV).toArray) : CI w0 n w.heap.size true (w.alloc (.cells vs t)) :=
  ⟨h.bel.alloc h.bel.size _, fun _ => bytes_new hv⟩
theorem CI.str {P : Program} {w0 w : World} {n g : Nat} {l11 : Bool} (h : CI w0 n g l11 w) (h4 : l11 = true) (src e dst : TypeId) (hs : P.underlying src = some (.slice e)) (he : P.underlying e = some (.int .u8)) (hd : P.underlying dst = some .string) :
    (convert src dst (.slice (some ⟨g, 0, none⟩) 4 4)).run P w = .ok (.string (four n)) w := by
  have := string_of (P := P) w src e dst g 4 (lowB 4 n) hs he hd (h.tmp h4)
  rw [lowB_len] at this
  exact this
theorem u64_nat {n : Nat} (h : n ≤ 4096) : IntKind.u64.wrap (n : Int) = (n : Int) := by rw [IntKind.wrap_u64]; omega
theorem chk_bytes {n T A : Nat} {d : ByteArray} : chkBytes ((n : Int), (T : Int), (A : Int), d) = strOf [67] ++ four n ++ strOf (vput T) ++ strOf (vput A) ++ d := rfl
theorem four_cells (n : Nat) : (#[.int .u8 (IntKind.u8.wrap (n : Int)), .int .u8 (IntKind.u8.wrap ((n : Int) / 256)), .int .u8 (IntKind.u8.wrap ((n : Int) / 65536)), .int .u8 (IntKind.u8.wrap ((n : Int) / 16777216))] : Array Value) = ((lowB 4 n).map byteV).toArray := by
  rw [show (n : Int) / 256 = ((n / 256 : Nat) : Int) by omega, show (n : Int) / 65536 = ((n / 65536 : Nat) : Int) by omega, show (n : Int) / 16777216 = ((n / 16777216 : Nat) : Int) by omega, lowB_four, u8_low, u8_low, u8_low, u8_low]
  rfl
def cwV (bw n T A : Nat) (F PT PA D Z C : ByteArray) (g : Nat) : Nat → Value
  | 0 => .int .u32 (n : Int)
  | 1 => .int .u8 (IntKind.u8.wrap (n : Int))
  | 2 => .int .u32 (n : Int)
  | 3 => .int .u32 ((n : Int) / 256)
  | 4 => .int .u8 (IntKind.u8.wrap ((n : Int) / 256))
  | 5 => .int .u32 (n : Int)
  | 6 => .int .u32 ((n : Int) / 65536)
  | 7 => .int .u8 (IntKind.u8.wrap ((n : Int) / 65536))
  | 8 => .int .u32 (n : Int)
  | 9 => .int .u32 ((n : Int) / 16777216)
  | 10 => .int .u8 (IntKind.u8.wrap ((n : Int) / 16777216))
  | 11 => .slice (some ⟨g, 0, none⟩) 4 4
  | 12 => .string F
  | 13 => .string (C ++ F)
  | 14 => .pointer (some ⟨bw, 1, none⟩)
  | 15 => .int .i64 (T : Int)
  | 16 => .int .u64 (T : Int)
  | 17 => .string PT
  | 18 => .string (C ++ F ++ PT)
  | 19 => .pointer (some ⟨bw, 2, none⟩)
  | 20 => .int .i64 (A : Int)
  | 21 => .int .u64 (A : Int)
  | 22 => .string PA
  | 23 => .string (C ++ F ++ PT ++ PA)
  | 24 => .pointer (some ⟨bw, 3, none⟩)
  | 25 => .string D
  | 26 => .string (C ++ F ++ PT ++ PA ++ D)
  | 27 => .string Z
  | 28 => .string Z
  | 29 => .nilIface
  | _ => undef
def rcV (bw n T A : Nat) (F PT PA D Z C : ByteArray) (g : Nat) : Nat → Value
  | 0 => .pointer (some ⟨bw, 0, none⟩)
  | 1 => .int .u32 (n : Int)
  | 2 => .string F
  | 3 => .string (C ++ F)
  | 4 => .pointer (some ⟨bw, 1, none⟩)
  | 5 => .int .i64 (T : Int)
  | 6 => .int .u64 (T : Int)
  | 7 => .string PT
  | 8 => .string (C ++ F ++ PT)
  | 9 => .pointer (some ⟨bw, 2, none⟩)
  | 10 => .int .i64 (A : Int)
  | 11 => .int .u64 (A : Int)
  | 12 => .string PA
  | 13 => .string (C ++ F ++ PT ++ PA)
  | 14 => .pointer (some ⟨bw, 3, none⟩)
  | 15 => .string D
  | 16 => .string (C ++ F ++ PT ++ PA ++ D)
  | 17 => .string Z
  | 18 => .string Z
  | 19 => .int .i64 0
  | _ => undef
set_option maxRecDepth 100000 in
/-- four of the reference. -/
theorem rfour_any (n : Nat) (w : World) (hn : n < 4294967296) :
    Calls Tryd.prog 107 #[.int .u32 (n : Int)] w fun e w' => e = .returned (.string (four n)) ∧ Below w.heap.size w w' := by
  have h0 := Lib.hid (show (⟨#[]⟩ : ByteArray) = strOf (lowB 0 n) from rfl)
  go_enter Tryd.func107, Tryd.ntmps107
  go_wp2
  go_loopw [0, 3, 4] (fun m a i wr => ∃ k : Nat, k ≤ 4 ∧ i = .int .i64 k ∧ m = .int .u32 ((n / 256 ^ k : Nat) : Int) ∧ a = .string (strOf (lowB k n)) ∧ Below w.heap.size w wr) (fun _ _ i _ => 4 - (intOf i).toNat)
  case atStart => exact ⟨0, by omega, rfl, by simp, by rw [← h0.out], Below.refl _ _⟩
  case round =>
    obtain ⟨k, hk, rfl, rfl, rfl, hbel⟩ := hrel
    have hB := hbel.size
    by_cases hlt : k < 4
    · have hsn := Lib.hid (lowB_snoc k n)
      have hl := lowB_len k n
      obtain ⟨m, hm⟩ : ∃ m, m = n / 256 ^ k := ⟨_, rfl⟩
      have hmn : m ≤ n := by rw [hm]; exact Nat.div_le_self _ _
      rw [← hm]
      have hnx := Lib.hid (show n / 256 ^ (k + 1) = m / 256 by rw [hm, Nat.div_div_eq_div_mul, Nat.pow_succ])
      have HM := Lib.hid hm
      clear hm
      have hsz : (strOf (lowB k n)).size = k := by rw [strOf_len (lowB k n), hl]
      obtain ⟨T, hT⟩ : ∃ T, T = strOf (lowB k n) := ⟨_, rfl⟩
      rw [← hT] at hsz ⊢
      have HT := Lib.hid hT
      clear hT
      go_wp2_with fail
      rw [string_new wr 144 5 9 5 _ [UInt8.ofNat (m % 256)] 1 (by simp [byteV]) rfl Tryd.underlying144 Tryd.underlying5 Tryd.underlying9]
      have h1 : (strOf [UInt8.ofNat (m % 256)]).size = 1 := rfl
      generalize hF : strOf [UInt8.ofNat (m % 256)] = F at *
      have HF := Lib.hid hF
      clear hF
      have hcat : T.size + F.size ≤ 9223372036854775807 := by omega
      go_wp2_with fail
      go_roundw
      case rel => exact ⟨k + 1, by omega, by go_num, valI (by rw [hnx.out]; omega), by rw [hsn.out, strOf_add, ← HF.out, HM.out, ← HM.out, HT.out], hbel.alloc hB _⟩
      case measure => simp [intOf]; omega
    · obtain rfl : k = 4 := by omega
      go_wp2_with fail
      go_ret
      exact ⟨rfl, hbel⟩

set_option maxHeartbeats 4000000 in
set_option maxRecDepth 100000 in
theorem cwrite_any (m t a : Int) (d : ByteArray) (w : World) (hm0 : 0 ≤ m) (hm1 : m < 4294967296) (hd : d.size ≤ 1000000) :
    Calls Tryd.prog 72 #[ckV m t a d] w fun r w' => r = .returned (.tuple #[.string (chkOf (m, t, a, d)).1, errV (chkRight t a d.size)]) ∧ Below w.heap.size w w' := by
  have hW := CkAt.new w m t a d
  have b0 := below1 w (ckO m t a d)
  have HW := hW
  obtain ⟨c0, c1, c2, c3⟩ := hW
  by_cases hz : chkRight t a d.size = 0
  · have hr := Lib.hid (chkOf_good (x := (m, t, a, d)) hz)
    obtain ⟨r1, r2, r3, r4, r5⟩ := chkRight_ok hz
    obtain ⟨n, rfl⟩ := Int.eq_ofNat_of_zero_le hm0
    obtain ⟨T, rfl⟩ := Int.eq_ofNat_of_zero_le (show 0 ≤ t by omega)
    obtain ⟨A, rfl⟩ := Int.eq_ofNat_of_zero_le r3
    have hn : n < 4294967296 := by omega
    have lT : T ≤ 4096 := by omega
    have lA : A ≤ 4096 := by omega
    have HZ := Lib.hid hz
    rw [hr.out, chk_bytes]
    clear hz hm0 hm1 r1 r2 r3 r4 hr
    have UT := u64_nat lT
    have UA := u64_nat lA
    have pT : T < 18446744073709551616 := by omega
    have pA : A < 18446744073709551616 := by omega
    have lPT := vput_len10 pT
    have lPA := vput_len10 pA
    rw [← strOf_size] at lPT lPA
    have lF := four_size n
    obtain ⟨PT, hPT⟩ : ∃ x, x = strOf (vput T) := ⟨_, rfl⟩
    obtain ⟨PA, hPA⟩ : ∃ x, x = strOf (vput A) := ⟨_, rfl⟩
    obtain ⟨F, hF⟩ : ∃ x, x = four n := ⟨_, rfl⟩
    obtain ⟨C, hC67⟩ : ∃ x, x = strOf [67] := ⟨_, rfl⟩
    have lC : C.size = 1 := hC67 ▸ rfl
    have hC67' : (⟨#[67]⟩ : ByteArray) = C := by rw [hC67]
    rw [← hPT] at lPT
    rw [← hPA] at lPA
    rw [← hF] at lF
    rw [← hPT, ← hPA, show four n = F from hF.symm]
    have z1 : ¬ 9223372036854775807 < C.size + F.size := by omega
    have z2 : ¬ 9223372036854775807 < (C ++ F).size + PT.size := by rw [ByteArray.size_append]; omega
    have z3 : ¬ 9223372036854775807 < (C ++ F ++ PT).size + PA.size := by rw [ByteArray.size_append, ByteArray.size_append]; omega
    have z4 : ¬ 9223372036854775807 < (C ++ F ++ PT ++ PA).size + d.size := by rw [ByteArray.size_append, ByteArray.size_append, ByteArray.size_append]; omega
    have zS : (C ++ F ++ PT ++ PA ++ d).size ≤ 1000000 := by rw [ByteArray.size_append, ByteArray.size_append, ByteArray.size_append, ByteArray.size_append]; omega
    simp only [ByteArray.size_append] at z2 z3 z4
    rw [← hC67]
    have HPT := Lib.hid hPT
    have HPA := Lib.hid hPA
    have HF := Lib.hid hF
    have HC := Lib.hid hC67
    have HS := Lib.hid zS
    clear hPT hPA hF hC67 zS
    obtain ⟨Z, hZ⟩ : ∃ x, x = sealOf (C ++ F ++ PT ++ PA ++ d) := ⟨_, rfl⟩
    rw [← hZ]
    have HZZ := Lib.hid hZ
    clear hZ
    go_enter Tryd.func72, Tryd.ntmps72
    go_wp2_with fail
    refine (ckright_any _ _ _ _ _).mono ?_
    rintro r w1 ⟨rfl, hb1⟩
    rw [HZ.out]
    obtain ⟨k0, k1, k2, k3⟩ := HW.below hb1
    have b1 := b0.trans (hb1.mono b0.size)
    clear c0 c1 c2 c3
    rw [errV_zero]
    go_wp2_with fail
    refine Flow.wp_region_flow' (by kernel_rfl) (by kernel_rfl) (by kernel_rfl) 41 rfl (by kernel_rfl) (cwV w.heap.size n T A F PT PA d Z C) (fun g L wz => CI w1 n g (L 11) wz) 0 ⟨(Below.refl _ _).drew, fun h => (by cases h)⟩ ⟨?_, ?_, ?_, ?_, ?_, ?_, ?_, ?_, ?_, ?_, ?_, ?_, ?_, ?_, ?_, ?_, ?_, ?_, ?_, ?_, ?_, ?_, ?_, ?_, ?_, ?_, ?_, ?_, ?_, ?_, trivial⟩ ?_
    · intro g L wz K ρ hc0 hf0 hF hO hi hd hC hK
      have e5 : ρ (.tmp 5) = .int .u32 (n : Int) := hO 5 (by kernel_rfl)
      simp [go_sem, Flow.yl_value, Flow.yl_skip, Flow.yl_enter, hc0, hf0, e5]
      exact hK g wz hC (fun _ _ => rfl)
    · intro g L wz K ρ hc0 hf0 hF hO hi hd hC hK
      have d0 : L 0 = true := hd ⟨0, .data⟩ (by simp) rfl
      have e13 : ρ (.tmp 13) = .int .u32 (n : Int) := hF 13 0 (by kernel_rfl) d0
      simp [go_sem, Flow.yl_value, Flow.yl_skip, Flow.yl_enter, hc0, hf0, e13]
      exact hK g wz hC (fun _ _ => rfl)
    · intro g L wz K ρ hc0 hf0 hF hO hi hd hC hK
      have e5 : ρ (.tmp 5) = .int .u32 (n : Int) := hO 5 (by kernel_rfl)
      simp [go_sem, Flow.yl_value, Flow.yl_skip, Flow.yl_enter, hc0, hf0, e5]
      exact hK g wz hC (fun _ _ => rfl)
    · intro g L wz K ρ hc0 hf0 hF hO hi hd hC hK
      have d2 : L 2 = true := hd ⟨2, .data⟩ (by simp) rfl
      have e15 : ρ (.tmp 15) = .int .u32 (n : Int) := hF 15 2 (by kernel_rfl) d2
      simp [go_sem, Flow.yl_value, Flow.yl_skip, Flow.yl_enter, hc0, hf0, e15]
      exact hK g wz hC (fun _ _ => rfl)
    · intro g L wz K ρ hc0 hf0 hF hO hi hd hC hK
      have d3 : L 3 = true := hd ⟨3, .data⟩ (by simp) rfl
      have e16 : ρ (.tmp 16) = .int .u32 ((n : Int) / 256) := hF 16 3 (by kernel_rfl) d3
      simp [go_sem, Flow.yl_value, Flow.yl_skip, Flow.yl_enter, hc0, hf0, e16]
      exact hK g wz hC (fun _ _ => rfl)
    · intro g L wz K ρ hc0 hf0 hF hO hi hd hC hK
      have e5 : ρ (.tmp 5) = .int .u32 (n : Int) := hO 5 (by kernel_rfl)
      simp [go_sem, Flow.yl_value, Flow.yl_skip, Flow.yl_enter, hc0, hf0, e5]
      exact hK g wz hC (fun _ _ => rfl)
    · intro g L wz K ρ hc0 hf0 hF hO hi hd hC hK
      have d5 : L 5 = true := hd ⟨5, .data⟩ (by simp) rfl
      have e18 : ρ (.tmp 18) = .int .u32 (n : Int) := hF 18 5 (by kernel_rfl) d5
      simp [go_sem, Flow.yl_value, Flow.yl_skip, Flow.yl_enter, hc0, hf0, e18]
      exact hK g wz hC (fun _ _ => rfl)
    · intro g L wz K ρ hc0 hf0 hF hO hi hd hC hK
      have d6 : L 6 = true := hd ⟨6, .data⟩ (by simp) rfl
      have e19 : ρ (.tmp 19) = .int .u32 ((n : Int) / 65536) := hF 19 6 (by kernel_rfl) d6
      simp [go_sem, Flow.yl_value, Flow.yl_skip, Flow.yl_enter, hc0, hf0, e19]
      exact hK g wz hC (fun _ _ => rfl)
    · intro g L wz K ρ hc0 hf0 hF hO hi hd hC hK
      have e5 : ρ (.tmp 5) = .int .u32 (n : Int) := hO 5 (by kernel_rfl)
      simp [go_sem, Flow.yl_value, Flow.yl_skip, Flow.yl_enter, hc0, hf0, e5]
      exact hK g wz hC (fun _ _ => rfl)
    · intro g L wz K ρ hc0 hf0 hF hO hi hd hC hK
      have d8 : L 8 = true := hd ⟨8, .data⟩ (by simp) rfl
      have e21 : ρ (.tmp 21) = .int .u32 (n : Int) := hF 21 8 (by kernel_rfl) d8
      simp [go_sem, Flow.yl_value, Flow.yl_skip, Flow.yl_enter, hc0, hf0, e21]
      exact hK g wz hC (fun _ _ => rfl)
    · intro g L wz K ρ hc0 hf0 hF hO hi hd hC hK
      have d9 : L 9 = true := hd ⟨9, .data⟩ (by simp) rfl
      have e22 : ρ (.tmp 22) = .int .u32 ((n : Int) / 16777216) := hF 22 9 (by kernel_rfl) d9
      simp [go_sem, Flow.yl_value, Flow.yl_skip, Flow.yl_enter, hc0, hf0, e22]
      exact hK g wz hC (fun _ _ => rfl)
    · intro g L wz K ρ hc0 hf0 hF hO hi hd hC hK
      have d1 : L 1 = true := hd ⟨1, .data⟩ (by simp) rfl
      have e14 : ρ (.tmp 14) = .int .u8 (IntKind.u8.wrap (n : Int)) := hF 14 1 (by kernel_rfl) d1
      have d4 : L 4 = true := hd ⟨4, .data⟩ (by simp) rfl
      have e17 : ρ (.tmp 17) = .int .u8 (IntKind.u8.wrap ((n : Int) / 256)) := hF 17 4 (by kernel_rfl) d4
      have d7 : L 7 = true := hd ⟨7, .data⟩ (by simp) rfl
      have e20 : ρ (.tmp 20) = .int .u8 (IntKind.u8.wrap ((n : Int) / 65536)) := hF 20 7 (by kernel_rfl) d7
      have d10 : L 10 = true := hd ⟨10, .data⟩ (by simp) rfl
      have e23 : ρ (.tmp 23) = .int .u8 (IntKind.u8.wrap ((n : Int) / 16777216)) := hF 23 10 (by kernel_rfl) d10
      simp [go_sem, Flow.yl_value, Flow.yl_skip, Flow.yl_enter, hc0, hf0, e14, e17, e20, e23]
      refine hK wz.heap.size _ ?_ ?_
      · exact hC.build (four_cells n)
      · intro j hj; unfold cwV; split <;> first | rfl | (rw [hi] at hj; cases hj)
    · intro g L wz K ρ hc0 hf0 hF hO hi hd hC hK
      have d11 : L 11 = true := hd ⟨11, .data⟩ (by simp) rfl
      have e24 : ρ (.tmp 24) = .slice (some ⟨g, 0, none⟩) 4 4 := hF 24 11 (by kernel_rfl) d11
      have hst := hC.str (P := Tryd.prog) d11 144 5 9 Tryd.underlying144 Tryd.underlying5 Tryd.underlying9
      rw [show four n = F from HF.out.symm] at hst
      simp [go_sem, Flow.yl_value, Flow.yl_skip, Flow.yl_enter, hc0, hf0, e24, hst]
      exact hK g wz hC (fun _ _ => rfl)
    · intro g L wz K ρ hc0 hf0 hF hO hi hd hC hK
      have d12 : L 12 = true := hd ⟨12, .data⟩ (by simp) rfl
      have e25 : ρ (.tmp 25) = .string F := hF 25 12 (by kernel_rfl) d12
      simp [go_sem, Flow.yl_value, Flow.yl_skip, Flow.yl_enter, hc0, hf0, e25, z1, hC67']
      exact hK g wz hC (fun _ _ => rfl)
    · intro g L wz K ρ hc0 hf0 hF hO hi hd hC hK
      have e1 : ρ (.tmp 1) = .pointer (some ⟨w.heap.size, 0, none⟩) := hO 1 (by kernel_rfl)
      simp [go_sem, Flow.yl_value, Flow.yl_skip, Flow.yl_enter, hc0, hf0, e1]
      exact hK g wz hC (fun _ _ => rfl)
    · intro g L wz K ρ hc0 hf0 hF hO hi hd hC hK
      have d14 : L 14 = true := hd ⟨14, .data⟩ (by simp) rfl
      have e27 : ρ (.tmp 27) = .pointer (some ⟨w.heap.size, 1, none⟩) := hF 27 14 (by kernel_rfl) d14
      have cc := (hC.bel.cell (cell_lt k1)).trans k1
      simp [go_sem, Flow.yl_value, Flow.yl_skip, Flow.yl_enter, hc0, hf0, e27, cc]
      exact hK g wz hC (fun _ _ => rfl)
    · intro g L wz K ρ hc0 hf0 hF hO hi hd hC hK
      have d15 : L 15 = true := hd ⟨15, .data⟩ (by simp) rfl
      have e28 : ρ (.tmp 28) = .int .i64 (T : Int) := hF 28 15 (by kernel_rfl) d15
      simp [go_sem, Flow.yl_value, Flow.yl_skip, Flow.yl_enter, hc0, hf0, e28, UT]
      exact hK g wz hC (fun _ _ => rfl)
    · intro g L wz K ρ hc0 hf0 hF hO hi hd hC hK
      have d16 : L 16 = true := hd ⟨16, .data⟩ (by simp) rfl
      have e29 : ρ (.tmp 29) = .int .u64 (T : Int) := hF 29 16 (by kernel_rfl) d16
      simp [go_sem, Flow.yl_value, Flow.yl_skip, Flow.yl_enter, hc0, hf0, e29]
      refine (vput_any T wz pT).mono ?_
      rintro r wn ⟨rfl, hbn⟩
      have hE : (⟨(vput T).toArray⟩ : ByteArray) = PT := HPT.out.symm
      rw [hE]
      exact ⟨_, rfl, hK g wn (hC.grow hbn) (fun _ _ => rfl)⟩
    · intro g L wz K ρ hc0 hf0 hF hO hi hd hC hK
      have d13 : L 13 = true := hd ⟨13, .data⟩ (by simp) rfl
      have e26 : ρ (.tmp 26) = .string (C ++ F) := hF 26 13 (by kernel_rfl) d13
      have d17 : L 17 = true := hd ⟨17, .data⟩ (by simp) rfl
      have e30 : ρ (.tmp 30) = .string PT := hF 30 17 (by kernel_rfl) d17
      simp [go_sem, Flow.yl_value, Flow.yl_skip, Flow.yl_enter, hc0, hf0, e26, e30, z2]
      exact hK g wz hC (fun _ _ => rfl)
    · intro g L wz K ρ hc0 hf0 hF hO hi hd hC hK
      have e1 : ρ (.tmp 1) = .pointer (some ⟨w.heap.size, 0, none⟩) := hO 1 (by kernel_rfl)
      simp [go_sem, Flow.yl_value, Flow.yl_skip, Flow.yl_enter, hc0, hf0, e1]
      exact hK g wz hC (fun _ _ => rfl)
    · intro g L wz K ρ hc0 hf0 hF hO hi hd hC hK
      have d19 : L 19 = true := hd ⟨19, .data⟩ (by simp) rfl
      have e32 : ρ (.tmp 32) = .pointer (some ⟨w.heap.size, 2, none⟩) := hF 32 19 (by kernel_rfl) d19
      have cc := (hC.bel.cell (cell_lt k2)).trans k2
      simp [go_sem, Flow.yl_value, Flow.yl_skip, Flow.yl_enter, hc0, hf0, e32, cc]
      exact hK g wz hC (fun _ _ => rfl)
    · intro g L wz K ρ hc0 hf0 hF hO hi hd hC hK
      have d20 : L 20 = true := hd ⟨20, .data⟩ (by simp) rfl
      have e33 : ρ (.tmp 33) = .int .i64 (A : Int) := hF 33 20 (by kernel_rfl) d20
      simp [go_sem, Flow.yl_value, Flow.yl_skip, Flow.yl_enter, hc0, hf0, e33, UA]
      exact hK g wz hC (fun _ _ => rfl)
    · intro g L wz K ρ hc0 hf0 hF hO hi hd hC hK
      have d21 : L 21 = true := hd ⟨21, .data⟩ (by simp) rfl
      have e34 : ρ (.tmp 34) = .int .u64 (A : Int) := hF 34 21 (by kernel_rfl) d21
      simp [go_sem, Flow.yl_value, Flow.yl_skip, Flow.yl_enter, hc0, hf0, e34]
      refine (vput_any A wz pA).mono ?_
      rintro r wn ⟨rfl, hbn⟩
      have hE : (⟨(vput A).toArray⟩ : ByteArray) = PA := HPA.out.symm
      rw [hE]
      exact ⟨_, rfl, hK g wn (hC.grow hbn) (fun _ _ => rfl)⟩
    · intro g L wz K ρ hc0 hf0 hF hO hi hd hC hK
      have d18 : L 18 = true := hd ⟨18, .data⟩ (by simp) rfl
      have e31 : ρ (.tmp 31) = .string (C ++ F ++ PT) := hF 31 18 (by kernel_rfl) d18
      have d22 : L 22 = true := hd ⟨22, .data⟩ (by simp) rfl
      have e35 : ρ (.tmp 35) = .string PA := hF 35 22 (by kernel_rfl) d22
      simp [go_sem, Flow.yl_value, Flow.yl_skip, Flow.yl_enter, hc0, hf0, e31, e35, z3]
      exact hK g wz hC (fun _ _ => rfl)
    · intro g L wz K ρ hc0 hf0 hF hO hi hd hC hK
      have e1 : ρ (.tmp 1) = .pointer (some ⟨w.heap.size, 0, none⟩) := hO 1 (by kernel_rfl)
      simp [go_sem, Flow.yl_value, Flow.yl_skip, Flow.yl_enter, hc0, hf0, e1]
      exact hK g wz hC (fun _ _ => rfl)
    · intro g L wz K ρ hc0 hf0 hF hO hi hd hC hK
      have d24 : L 24 = true := hd ⟨24, .data⟩ (by simp) rfl
      have e37 : ρ (.tmp 37) = .pointer (some ⟨w.heap.size, 3, none⟩) := hF 37 24 (by kernel_rfl) d24
      have cc := (hC.bel.cell (cell_lt k3)).trans k3
      simp [go_sem, Flow.yl_value, Flow.yl_skip, Flow.yl_enter, hc0, hf0, e37, cc]
      exact hK g wz hC (fun _ _ => rfl)
    · intro g L wz K ρ hc0 hf0 hF hO hi hd hC hK
      have d23 : L 23 = true := hd ⟨23, .data⟩ (by simp) rfl
      have e36 : ρ (.tmp 36) = .string (C ++ F ++ PT ++ PA) := hF 36 23 (by kernel_rfl) d23
      have d25 : L 25 = true := hd ⟨25, .data⟩ (by simp) rfl
      have e38 : ρ (.tmp 38) = .string d := hF 38 25 (by kernel_rfl) d25
      simp [go_sem, Flow.yl_value, Flow.yl_skip, Flow.yl_enter, hc0, hf0, e36, e38, z4]
      exact hK g wz hC (fun _ _ => rfl)
    · intro g L wz K ρ hc0 hf0 hF hO hi hd hC hK
      have d26 : L 26 = true := hd ⟨26, .data⟩ (by simp) rfl
      have e39 : ρ (.tmp 39) = .string (C ++ F ++ PT ++ PA ++ d) := hF 39 26 (by kernel_rfl) d26
      simp [go_sem, Flow.yl_value, Flow.yl_skip, Flow.yl_enter, hc0, hf0, e39]
      refine (seal_any _ wz HS.out).mono ?_
      rintro r wn ⟨rfl, hbn⟩
      rw [← HZZ.out]
      exact ⟨_, rfl, hK g wn (hC.grow hbn) (fun _ _ => rfl)⟩
    · intro g L wz K ρ hc0 hf0 hF hO hi hd hC hK
      have d27 : L 27 = true := hd ⟨27, .data⟩ (by simp) rfl
      have e40 : ρ (.tmp 40) = .string Z := hF 40 27 (by kernel_rfl) d27
      simp [go_sem, Flow.yl_value, Flow.yl_skip, Flow.yl_enter, hc0, hf0, e40]
      exact hK g wz hC (fun _ _ => rfl)
    · intro g L wz K ρ hc0 hf0 hF hO hi hd hC hK
      simp [go_sem, Flow.yl_value, Flow.yl_skip, Flow.yl_enter, hc0, hf0]
      exact hK g wz hC (fun _ _ => rfl)
    · intro g L wz hL hC
      have hbF := hC.bel
      simp only [Flow.putAll, cwV]
      go_wp2
      go_ret2
      refine ⟨?_, b1.trans (hbF.mono b1.size)⟩
      simp [go_sem, HZ.out, errV_zero]
  · have hr := Lib.hid (chkOf_bad (x := (m, t, a, d)) hz)
    rw [hr.out]
    have hv := Lib.hid (errV_of hz)
    have HZ := Lib.hid hz
    clear hz
    go_enter Tryd.func72, Tryd.ntmps72
    go_wp2_with fail
    refine (ckright_any _ _ _ _ _).mono ?_
    rintro r w1 ⟨rfl, hb1⟩
    have b1 := b0.trans (hb1.mono b0.size)
    clear c0 c1 c2 c3 HW
    rw [hv.out]
    go_wp2
    go_ret2
    exact ⟨by rw [hv.out]; rfl, b1⟩
set_option maxHeartbeats 4000000 in
set_option maxRecDepth 100000 in
theorem rchunk_any (m t a : Int) (d : ByteArray) (w : World) (hm0 : 0 ≤ m) (hm1 : m < 4294967296) (hd : d.size ≤ 1000000) :
    Calls Tryd.prog 71 #[ckV m t a d] w fun r w' => r = .returned (.tuple #[.string (chkOf (m, t, a, d)).1, .int .i64 (chkRight t a d.size)]) ∧ Below w.heap.size w w' := by
  have hW := CkAt.new w m t a d
  have b0 := below1 w (ckO m t a d)
  have HW := hW
  obtain ⟨c0, c1, c2, c3⟩ := hW
  by_cases hz : chkRight t a d.size = 0
  · have hr := Lib.hid (chkOf_good (x := (m, t, a, d)) hz)
    obtain ⟨r1, r2, r3, r4, r5⟩ := chkRight_ok hz
    obtain ⟨n, rfl⟩ := Int.eq_ofNat_of_zero_le hm0
    obtain ⟨T, rfl⟩ := Int.eq_ofNat_of_zero_le (show 0 ≤ t by omega)
    obtain ⟨A, rfl⟩ := Int.eq_ofNat_of_zero_le r3
    have hn : n < 4294967296 := by omega
    have lT : T ≤ 4096 := by omega
    have lA : A ≤ 4096 := by omega
    have HZ := Lib.hid hz
    rw [hr.out, chk_bytes]
    clear hz hm0 hm1 r1 r2 r3 r4 hr
    have UT := u64_nat lT
    have UA := u64_nat lA
    have pT : T < 18446744073709551616 := by omega
    have pA : A < 18446744073709551616 := by omega
    have lPT := vput_len10 pT
    have lPA := vput_len10 pA
    rw [← strOf_size] at lPT lPA
    have lF := four_size n
    obtain ⟨PT, hPT⟩ : ∃ x, x = strOf (vput T) := ⟨_, rfl⟩
    obtain ⟨PA, hPA⟩ : ∃ x, x = strOf (vput A) := ⟨_, rfl⟩
    obtain ⟨F, hF⟩ : ∃ x, x = four n := ⟨_, rfl⟩
    obtain ⟨C, hC67⟩ : ∃ x, x = strOf [67] := ⟨_, rfl⟩
    have lC : C.size = 1 := hC67 ▸ rfl
    have hC67' : (⟨#[67]⟩ : ByteArray) = C := by rw [hC67]
    rw [← hPT] at lPT
    rw [← hPA] at lPA
    rw [← hF] at lF
    rw [← hPT, ← hPA, show four n = F from hF.symm]
    have z1 : ¬ 9223372036854775807 < C.size + F.size := by omega
    have z2 : ¬ 9223372036854775807 < (C ++ F).size + PT.size := by rw [ByteArray.size_append]; omega
    have z3 : ¬ 9223372036854775807 < (C ++ F ++ PT).size + PA.size := by rw [ByteArray.size_append, ByteArray.size_append]; omega
    have z4 : ¬ 9223372036854775807 < (C ++ F ++ PT ++ PA).size + d.size := by rw [ByteArray.size_append, ByteArray.size_append, ByteArray.size_append]; omega
    have zS : (C ++ F ++ PT ++ PA ++ d).size ≤ 1000000 := by rw [ByteArray.size_append, ByteArray.size_append, ByteArray.size_append, ByteArray.size_append]; omega
    simp only [ByteArray.size_append] at z2 z3 z4
    rw [← hC67]
    have HPT := Lib.hid hPT
    have HPA := Lib.hid hPA
    have HF := Lib.hid hF
    have HC := Lib.hid hC67
    have HS := Lib.hid zS
    clear hPT hPA hF hC67 zS
    obtain ⟨Z, hZ⟩ : ∃ x, x = sealOf (C ++ F ++ PT ++ PA ++ d) := ⟨_, rfl⟩
    rw [← hZ]
    have HZZ := Lib.hid hZ
    clear hZ
    go_enter Tryd.func71, Tryd.ntmps71
    go_wp2_with fail
    refine (rckright_any _ _ _ _ _ (by omega)).mono ?_
    rintro r w1 ⟨rfl, hb1⟩
    rw [HZ.out]
    obtain ⟨k0, k1, k2, k3⟩ := HW.below hb1
    have b1 := b0.trans (hb1.mono b0.size)
    clear c0 c1 c2 c3
    go_wp2_with fail
    refine Flow.wp_region_flow' (by kernel_rfl) (by kernel_rfl) (by kernel_rfl) 28 rfl (by kernel_rfl) (rcV w.heap.size n T A F PT PA d Z C) (fun g L wz => CI w1 n g (L 99) wz) 0 ⟨(Below.refl _ _).drew, fun h => (by cases h)⟩ ⟨?_, ?_, ?_, ?_, ?_, ?_, ?_, ?_, ?_, ?_, ?_, ?_, ?_, ?_, ?_, ?_, ?_, ?_, ?_, ?_, trivial⟩ ?_
    · intro g L wz K ρ hc0 hf0 hF hO hi hd hC hK
      have e1 : ρ (.tmp 1) = .pointer (some ⟨w.heap.size, 0, none⟩) := hO 1 (by kernel_rfl)
      simp [go_sem, Flow.yl_value, Flow.yl_skip, Flow.yl_enter, hc0, hf0, e1]
      exact hK g wz hC (fun _ _ => rfl)
    · intro g L wz K ρ hc0 hf0 hF hO hi hd hC hK
      have d0 : L 0 = true := hd ⟨0, .data⟩ (by simp) rfl
      have e10 : ρ (.tmp 10) = .pointer (some ⟨w.heap.size, 0, none⟩) := hF 10 0 (by kernel_rfl) d0
      have cc := (hC.bel.cell (cell_lt k0)).trans k0
      simp [go_sem, Flow.yl_value, Flow.yl_skip, Flow.yl_enter, hc0, hf0, e10, cc]
      exact hK g wz hC (fun _ _ => rfl)
    · intro g L wz K ρ hc0 hf0 hF hO hi hd hC hK
      have d1 : L 1 = true := hd ⟨1, .data⟩ (by simp) rfl
      have e11 : ρ (.tmp 11) = .int .u32 (n : Int) := hF 11 1 (by kernel_rfl) d1
      simp [go_sem, Flow.yl_value, Flow.yl_skip, Flow.yl_enter, hc0, hf0, e11]
      refine (rfour_any n wz hn).mono ?_
      rintro r wn ⟨rfl, hbn⟩
      rw [show four n = F from HF.out.symm]
      exact ⟨_, rfl, hK g wn (hC.grow hbn) (fun _ _ => rfl)⟩
    · intro g L wz K ρ hc0 hf0 hF hO hi hd hC hK
      have d2 : L 2 = true := hd ⟨2, .data⟩ (by simp) rfl
      have e12 : ρ (.tmp 12) = .string F := hF 12 2 (by kernel_rfl) d2
      simp [go_sem, Flow.yl_value, Flow.yl_skip, Flow.yl_enter, hc0, hf0, e12, z1, hC67']
      exact hK g wz hC (fun _ _ => rfl)
    · intro g L wz K ρ hc0 hf0 hF hO hi hd hC hK
      have e1 : ρ (.tmp 1) = .pointer (some ⟨w.heap.size, 0, none⟩) := hO 1 (by kernel_rfl)
      simp [go_sem, Flow.yl_value, Flow.yl_skip, Flow.yl_enter, hc0, hf0, e1]
      exact hK g wz hC (fun _ _ => rfl)
    · intro g L wz K ρ hc0 hf0 hF hO hi hd hC hK
      have d4 : L 4 = true := hd ⟨4, .data⟩ (by simp) rfl
      have e14 : ρ (.tmp 14) = .pointer (some ⟨w.heap.size, 1, none⟩) := hF 14 4 (by kernel_rfl) d4
      have cc := (hC.bel.cell (cell_lt k1)).trans k1
      simp [go_sem, Flow.yl_value, Flow.yl_skip, Flow.yl_enter, hc0, hf0, e14, cc]
      exact hK g wz hC (fun _ _ => rfl)
    · intro g L wz K ρ hc0 hf0 hF hO hi hd hC hK
      have d5 : L 5 = true := hd ⟨5, .data⟩ (by simp) rfl
      have e15 : ρ (.tmp 15) = .int .i64 (T : Int) := hF 15 5 (by kernel_rfl) d5
      simp [go_sem, Flow.yl_value, Flow.yl_skip, Flow.yl_enter, hc0, hf0, e15, UT]
      exact hK g wz hC (fun _ _ => rfl)
    · intro g L wz K ρ hc0 hf0 hF hO hi hd hC hK
      have d6 : L 6 = true := hd ⟨6, .data⟩ (by simp) rfl
      have e16 : ρ (.tmp 16) = .int .u64 (T : Int) := hF 16 6 (by kernel_rfl) d6
      simp [go_sem, Flow.yl_value, Flow.yl_skip, Flow.yl_enter, hc0, hf0, e16]
      refine (rvary_any T wz pT).mono ?_
      rintro r wn ⟨rfl, hbn⟩
      have hE : (⟨(vput T).toArray⟩ : ByteArray) = PT := HPT.out.symm
      rw [hE]
      exact ⟨_, rfl, hK g wn (hC.grow hbn) (fun _ _ => rfl)⟩
    · intro g L wz K ρ hc0 hf0 hF hO hi hd hC hK
      have d3 : L 3 = true := hd ⟨3, .data⟩ (by simp) rfl
      have e13 : ρ (.tmp 13) = .string (C ++ F) := hF 13 3 (by kernel_rfl) d3
      have d7 : L 7 = true := hd ⟨7, .data⟩ (by simp) rfl
      have e17 : ρ (.tmp 17) = .string PT := hF 17 7 (by kernel_rfl) d7
      simp [go_sem, Flow.yl_value, Flow.yl_skip, Flow.yl_enter, hc0, hf0, e13, e17, z2]
      exact hK g wz hC (fun _ _ => rfl)
    · intro g L wz K ρ hc0 hf0 hF hO hi hd hC hK
      have e1 : ρ (.tmp 1) = .pointer (some ⟨w.heap.size, 0, none⟩) := hO 1 (by kernel_rfl)
      simp [go_sem, Flow.yl_value, Flow.yl_skip, Flow.yl_enter, hc0, hf0, e1]
      exact hK g wz hC (fun _ _ => rfl)
    · intro g L wz K ρ hc0 hf0 hF hO hi hd hC hK
      have d9 : L 9 = true := hd ⟨9, .data⟩ (by simp) rfl
      have e19 : ρ (.tmp 19) = .pointer (some ⟨w.heap.size, 2, none⟩) := hF 19 9 (by kernel_rfl) d9
      have cc := (hC.bel.cell (cell_lt k2)).trans k2
      simp [go_sem, Flow.yl_value, Flow.yl_skip, Flow.yl_enter, hc0, hf0, e19, cc]
      exact hK g wz hC (fun _ _ => rfl)
    · intro g L wz K ρ hc0 hf0 hF hO hi hd hC hK
      have d10 : L 10 = true := hd ⟨10, .data⟩ (by simp) rfl
      have e20 : ρ (.tmp 20) = .int .i64 (A : Int) := hF 20 10 (by kernel_rfl) d10
      simp [go_sem, Flow.yl_value, Flow.yl_skip, Flow.yl_enter, hc0, hf0, e20, UA]
      exact hK g wz hC (fun _ _ => rfl)
    · intro g L wz K ρ hc0 hf0 hF hO hi hd hC hK
      have d11 : L 11 = true := hd ⟨11, .data⟩ (by simp) rfl
      have e21 : ρ (.tmp 21) = .int .u64 (A : Int) := hF 21 11 (by kernel_rfl) d11
      simp [go_sem, Flow.yl_value, Flow.yl_skip, Flow.yl_enter, hc0, hf0, e21]
      refine (rvary_any A wz pA).mono ?_
      rintro r wn ⟨rfl, hbn⟩
      have hE : (⟨(vput A).toArray⟩ : ByteArray) = PA := HPA.out.symm
      rw [hE]
      exact ⟨_, rfl, hK g wn (hC.grow hbn) (fun _ _ => rfl)⟩
    · intro g L wz K ρ hc0 hf0 hF hO hi hd hC hK
      have d8 : L 8 = true := hd ⟨8, .data⟩ (by simp) rfl
      have e18 : ρ (.tmp 18) = .string (C ++ F ++ PT) := hF 18 8 (by kernel_rfl) d8
      have d12 : L 12 = true := hd ⟨12, .data⟩ (by simp) rfl
      have e22 : ρ (.tmp 22) = .string PA := hF 22 12 (by kernel_rfl) d12
      simp [go_sem, Flow.yl_value, Flow.yl_skip, Flow.yl_enter, hc0, hf0, e18, e22, z3]
      exact hK g wz hC (fun _ _ => rfl)
    · intro g L wz K ρ hc0 hf0 hF hO hi hd hC hK
      have e1 : ρ (.tmp 1) = .pointer (some ⟨w.heap.size, 0, none⟩) := hO 1 (by kernel_rfl)
      simp [go_sem, Flow.yl_value, Flow.yl_skip, Flow.yl_enter, hc0, hf0, e1]
      exact hK g wz hC (fun _ _ => rfl)
    · intro g L wz K ρ hc0 hf0 hF hO hi hd hC hK
      have d14 : L 14 = true := hd ⟨14, .data⟩ (by simp) rfl
      have e24 : ρ (.tmp 24) = .pointer (some ⟨w.heap.size, 3, none⟩) := hF 24 14 (by kernel_rfl) d14
      have cc := (hC.bel.cell (cell_lt k3)).trans k3
      simp [go_sem, Flow.yl_value, Flow.yl_skip, Flow.yl_enter, hc0, hf0, e24, cc]
      exact hK g wz hC (fun _ _ => rfl)
    · intro g L wz K ρ hc0 hf0 hF hO hi hd hC hK
      have d13 : L 13 = true := hd ⟨13, .data⟩ (by simp) rfl
      have e23 : ρ (.tmp 23) = .string (C ++ F ++ PT ++ PA) := hF 23 13 (by kernel_rfl) d13
      have d15 : L 15 = true := hd ⟨15, .data⟩ (by simp) rfl
      have e25 : ρ (.tmp 25) = .string d := hF 25 15 (by kernel_rfl) d15
      simp [go_sem, Flow.yl_value, Flow.yl_skip, Flow.yl_enter, hc0, hf0, e23, e25, z4]
      exact hK g wz hC (fun _ _ => rfl)
    · intro g L wz K ρ hc0 hf0 hF hO hi hd hC hK
      have d16 : L 16 = true := hd ⟨16, .data⟩ (by simp) rfl
      have e26 : ρ (.tmp 26) = .string (C ++ F ++ PT ++ PA ++ d) := hF 26 16 (by kernel_rfl) d16
      simp [go_sem, Flow.yl_value, Flow.yl_skip, Flow.yl_enter, hc0, hf0, e26]
      refine (rseal_any _ wz HS.out).mono ?_
      rintro r wn ⟨rfl, hbn⟩
      rw [← HZZ.out]
      exact ⟨_, rfl, hK g wn (hC.grow hbn) (fun _ _ => rfl)⟩
    · intro g L wz K ρ hc0 hf0 hF hO hi hd hC hK
      have d17 : L 17 = true := hd ⟨17, .data⟩ (by simp) rfl
      have e27 : ρ (.tmp 27) = .string Z := hF 27 17 (by kernel_rfl) d17
      simp [go_sem, Flow.yl_value, Flow.yl_skip, Flow.yl_enter, hc0, hf0, e27]
      exact hK g wz hC (fun _ _ => rfl)
    · intro g L wz K ρ hc0 hf0 hF hO hi hd hC hK
      simp [go_sem, Flow.yl_value, Flow.yl_skip, Flow.yl_enter, hc0, hf0]
      exact hK g wz hC (fun _ _ => rfl)
    · intro g L wz hL hC
      have hbF := hC.bel
      simp only [Flow.putAll, rcV]
      go_wp2
      go_ret2
      refine ⟨?_, b1.trans (hbF.mono b1.size)⟩
      simp [go_sem, HZ.out]
  · have hr := Lib.hid (chkOf_bad (x := (m, t, a, d)) hz)
    rw [hr.out]
    have hv : (chkRight t a d.size != 0) = true := by rw [bne_iff_ne]; exact hz
    have HZ := Lib.hid hz
    clear hz
    go_enter Tryd.func71, Tryd.ntmps71
    go_wp2_with fail
    refine (rckright_any _ _ _ _ _ (by omega)).mono ?_
    rintro r w1 ⟨rfl, hb1⟩
    have b1 := b0.trans (hb1.mono b0.size)
    clear c0 c1 c2 c3 HW
    go_wp2
    go_ret2
    exact ⟨rfl, b1⟩
end Go.Proofs.YtglemfdnfaemiaaDoor
