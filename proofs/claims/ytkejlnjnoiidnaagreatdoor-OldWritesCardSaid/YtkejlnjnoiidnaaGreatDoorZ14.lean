/- crc.Seal, crc.Open and Seal, Open of the reference say what sealOf and openOf say.

old.First says what firstOf says. Printed by gen_old.py.

frame.Write says what frameOf says.

BatchRight of the reference says what bright says. -/
import Derived.Test.YtkejlnjnoiidnaaGreatDoorZ3
import Derived.Test.YtkejlnjnoiidnaaGreatDoorZ13
import Derived.Test.YtkejlnjnoiidnaaGreatDoorZ2
import Derived.Test.YtkejlnjnoiidnaaGreatDoorZ4
import Derived.Test.YtkejlnjnoiidnaaGreatDoorZ1
import Derived.Test.YtkejlnjnoiidnaaGreatDoorZ8
import Derived.Test.YtkejlnjnoiidnaaGreatDoorZ10
section
namespace Go.Proofs.YtkejlnjnoiidnaaGreatDoor
open Go.RowKit As
/-- The string of a slice that was built of bytes. -/
theorem string_new {P : Program} (w : World) (src e dst t : TypeId) (vs : Array Value) (l : List UInt8) (n : Nat) (hv : vs = (l.map byteV).toArray) (hn : n = l.length) (hs : P.underlying src = some (.slice e)) (he : P.underlying e = some (.int .u8)) (hd : P.underlying dst = some .string) :
    (convert src dst (.slice (some ⟨w.heap.size, 0, none⟩) n n)).run P (w.alloc (.cells vs t)) = .ok (.string (strOf l)) (w.alloc (.cells vs t)) := by
  subst hv hn
  refine string_of _ src e dst _ _ l hs he hd fun i hi => ⟨?_, ?_⟩
  · rw [World.cell?_alloc_new]
    simp [List.getElem?_map, List.getElem?_eq_getElem hi]
  · simp only [World.alloc, World.frozen?, Array.getElem?_push_size]
    simp
theorem u8_low (n : Nat) : IntKind.u8.wrap (n : Int) = ((UInt8.ofNat (n % 256)).toNat : Int) := by
  rw [IntKind.wrap_u8']
  have : (UInt8.ofNat (n % 256)).toNat = n % 256 := by simp
  rw [this]; omega
set_option maxRecDepth 100000 in
theorem seal_any (s : ByteArray) (w : World) (hs : s.size ≤ 1000000) :
    Calls Tryz.prog 41 #[.string s] w fun e w' => e = .returned (.string (sealOf s)) ∧ Below w.heap.size w w' := by
  obtain ⟨n, hn⟩ : ∃ n, n = crcOf s := ⟨_, rfl⟩
  have hlt := crcOf_lt s
  rw [← hn] at hlt
  have HN := Lib.hid hn
  clear hn
  go_enter Tryz.func41, Tryz.ntmps41
  go_wp2_with fail
  refine (Crc.sum_any s w (by unfold maxLen; omega)).mono ?_
  rintro e w' ⟨rfl, rfl⟩
  rw [show Crc.more 0 s.data.toList = n from HN.out.symm]
  go_wp2_with fail
  rw [string_new w 61 5 9 5 _ (lowB 4 n) 4 (by rw [lowB_four]; simp [byteV]; omega) (lowB_len 4 n).symm Tryz.underlying61 Tryz.underlying5 Tryz.underlying9]
  have h4 : (strOf (lowB 4 n)).size = 4 := four_size n
  generalize hF : strOf (lowB 4 n) = F at *
  have HF := Lib.hid hF
  clear hF
  have hcat : s.size + F.size ≤ 9223372036854775807 := by omega
  go_wp2_with fail
  go_ret
  exact ⟨by unfold sealOf four; rw [← HN.out, HF.out]; rfl, below1 _ _⟩
set_option maxRecDepth 100000 in
theorem rseal_any (s : ByteArray) (w : World) (hs : s.size ≤ 1000000) :
    Calls Tryz.prog 34 #[.string s] w fun e w' => e = .returned (.string (sealOf s)) ∧ Below w.heap.size w w' := by
  obtain ⟨n, hn⟩ : ∃ n, n = crcOf s := ⟨_, rfl⟩
  have hlt := crcOf_lt s
  rw [← hn] at hlt
  have HN := Lib.hid hn
  clear hn
  have h0 := Lib.hid (strOf_nil s)
  go_enter Tryz.func34, Tryz.ntmps34
  go_wp2_with fail
  refine (Crc.rsum_any s w (by omega)).mono ?_
  rintro e w' ⟨rfl, rfl⟩
  rw [show Crc.more 0 s.data.toList = n from HN.out.symm]
  go_wp2
  go_loopw [0, 3, 6] (fun a m i wr => ∃ k : Nat, k ≤ 4 ∧ i = .int .i64 k ∧ m = .int .u32 ((n / 256 ^ k : Nat) : Int) ∧ a = .string (s ++ strOf (lowB k n)) ∧ Below w.heap.size w wr) (fun _ _ i _ => 4 - (intOf i).toNat)
  case atStart => exact ⟨0, by omega, rfl, by simp, by rw [show lowB 0 n = [] from rfl, h0.out], Below.refl _ _⟩
  case round =>
    obtain ⟨k, hk, rfl, rfl, rfl, hbel⟩ := hrel
    have hB := hbel.size
    by_cases hlt : k < 4
    · have hsn := Lib.hid (lowB_snoc k n)
      have hl := lowB_len k n
      obtain ⟨m, hm⟩ : ∃ m, m = n / 256 ^ k := ⟨_, rfl⟩
      have hmn : m ≤ n := by rw [hm]; exact Nat.div_le_self _ _
      rw [← hm]
      have hnx := Lib.hid (show n / 256 ^ (k + 1) = m / 256 by rw [hm, Nat.div_div_eq_div_mul, Nat.pow_succ])
      have HM := Lib.hid hm
      clear hm
      have hsz : (s ++ strOf (lowB k n)).size = s.size + k := by rw [ByteArray.size_append, strOf_len (lowB k n), hl]
      obtain ⟨T, hT⟩ : ∃ T, T = s ++ strOf (lowB k n) := ⟨_, rfl⟩
      rw [← hT] at hsz ⊢
      have HT := Lib.hid hT
      clear hT
      go_wp2_with fail
      rw [string_new wr 61 5 9 5 _ [UInt8.ofNat (m % 256)] 1 (by simp [byteV]) rfl Tryz.underlying61 Tryz.underlying5 Tryz.underlying9]
      have h1 : (strOf [UInt8.ofNat (m % 256)]).size = 1 := rfl
      generalize hF : strOf [UInt8.ofNat (m % 256)] = F at *
      have HF := Lib.hid hF
      clear hF
      have hcat : T.size + F.size ≤ 9223372036854775807 := by omega
      go_wp2_with fail
      go_roundw
      case rel => exact ⟨k + 1, by omega, by go_num, valI (by rw [hnx.out]; omega), by rw [HT.out, hsn.out, strOf_add, ← str_assoc, ← HF.out, HM.out], hbel.alloc hB _⟩
      case measure => simp [intOf]; omega
    · obtain rfl : k = 4 := by omega
      go_wp2_with fail
      go_ret
      exact ⟨by unfold sealOf; rw [← HN.out]; rfl, hbel⟩
set_option maxRecDepth 100000 in
theorem open_any (s : ByteArray) (w : World) (hs : s.size ≤ 1000000) :
    Calls Tryz.prog 69 #[.string s] w fun e w' => e = .returned (.tuple #[.string (openOf s).1, errV (openOf s).2]) ∧ Below w.heap.size w w' := by
  by_cases h4 : s.size < 4
  · have H := Lib.hid (open_short h4)
    have hd : decide (s.size < 4) = true := by simpa using h4
    go_enter Tryz.func69, Tryz.ntmps69
    go_wp2
    go_ret2
    exact ⟨by rw [H.out]; rfl, Below.refl _ _⟩
  · have hd : decide (s.size < 4) = false := by simpa using h4
    have hsz : (s.extract 0 (s.size - 4)).size = s.size - 4 := by rw [ByteArray.size_extract]; omega
    have he := Lib.hid (show (s.extract 0 (s.size - 4)).size ≤ 1000000 by omega)
    clear hsz
    by_cases hg : sealOf (s.extract 0 (s.size - 4)) = s
    · have H := Lib.hid (open_good h4 hg)
      have Hg := Lib.hid hg
      clear hg
      go_enter Tryz.func69, Tryz.ntmps69
      go_wp2_with fail
      refine (seal_any _ w he.out).mono ?_
      rintro e w' ⟨rfl, hb⟩
      rw [Hg.out]
      go_wp2
      go_ret2
      exact ⟨by rw [H.out]; rfl, hb⟩
    · have H := Lib.hid (open_bad h4 hg)
      obtain ⟨Z, hZ⟩ : ∃ Z, Z = sealOf (s.extract 0 (s.size - 4)) := ⟨_, rfl⟩
      rw [← hZ] at hg
      have HZ := Lib.hid hZ
      clear hZ
      have hne := toList_ne hg
      clear hg
      go_enter Tryz.func69, Tryz.ntmps69
      go_wp2_with fail
      refine (seal_any _ w he.out).mono ?_
      rintro e w' ⟨rfl, hb⟩
      rw [← HZ.out]
      go_wp2
      go_ret2
      exact ⟨by rw [H.out]; rfl, hb⟩
set_option maxRecDepth 100000 in
theorem ropen_any (s : ByteArray) (w : World) (hs : s.size ≤ 1000000) :
    Calls Tryz.prog 48 #[.string s] w fun e w' => e = .returned (.tuple #[.string (openOf s).1, .int .i64 (openOf s).2]) ∧ Below w.heap.size w w' := by
  by_cases h4 : s.size < 4
  · have H := Lib.hid (open_short h4)
    have hd : decide (s.size < 4) = true := by simpa using h4
    go_enter Tryz.func48, Tryz.ntmps48
    go_wp2
    go_ret2
    exact ⟨by rw [H.out]; rfl, Below.refl _ _⟩
  · have hd : decide (s.size < 4) = false := by simpa using h4
    have hsz : (s.extract 0 (s.size - 4)).size = s.size - 4 := by rw [ByteArray.size_extract]; omega
    have he := Lib.hid (show (s.extract 0 (s.size - 4)).size ≤ 1000000 by omega)
    clear hsz
    by_cases hg : sealOf (s.extract 0 (s.size - 4)) = s
    · have H := Lib.hid (open_good h4 hg)
      have Hg := Lib.hid hg
      clear hg
      go_enter Tryz.func48, Tryz.ntmps48
      go_wp2_with fail
      refine (rseal_any _ w he.out).mono ?_
      rintro e w' ⟨rfl, hb⟩
      rw [Hg.out]
      go_wp2
      go_ret2
      exact ⟨by rw [H.out]; rfl, hb⟩
    · have H := Lib.hid (open_bad h4 hg)
      obtain ⟨Z, hZ⟩ : ∃ Z, Z = sealOf (s.extract 0 (s.size - 4)) := ⟨_, rfl⟩
      rw [← hZ] at hg
      have HZ := Lib.hid hZ
      clear hZ
      have hne := toList_ne hg
      clear hg
      go_enter Tryz.func48, Tryz.ntmps48
      go_wp2_with fail
      refine (rseal_any _ w he.out).mono ?_
      rintro e w' ⟨rfl, hb⟩
      rw [← HZ.out]
      go_wp2
      go_ret2
      exact ⟨by rw [H.out]; rfl, hb⟩
end Go.Proofs.YtkejlnjnoiidnaaGreatDoor
end

section
namespace Go.Proofs.YtkejlnjnoiidnaaGreatDoor
set_option linter.unusedSimpArgs false
set_option linter.unusedVariables false
open Go.RowKit As
def ofV (bb : Nat) (A : Option Addr) (n c : Nat) (A' : Option Addr) (n' c' : Nat) (A'' : Option Addr) (n'' c'' : Nat) (PF PH SN : ByteArray) (g : Unit) : Nat → Value
  | 0 => .pointer (some ⟨bb, 0, none⟩)
  | 1 => .slice A n c
  | 2 => .string PF
  | 3 => .string ((⟨#[80, 84, 1]⟩ : ByteArray) ++ PF)
  | 4 => .pointer (some ⟨bb, 1, none⟩)
  | 5 => .slice A' n' c'
  | 6 => .string PH
  | 7 => .string ((⟨#[80, 84, 1]⟩ : ByteArray) ++ PF ++ PH)
  | 8 => .pointer (some ⟨bb, 2, none⟩)
  | 9 => .slice A'' n'' c''
  | 10 => .int .i64 (n'' : Int)
  | 11 => .int .u64 (n'' : Int)
  | 12 => .string SN
  | 13 => .string ((⟨#[80, 84, 1]⟩ : ByteArray) ++ PF ++ PH ++ SN)
  | 14 => .string ((⟨#[80, 84, 1]⟩ : ByteArray) ++ PF ++ PH ++ SN)
  | _ => undef
def owV (bw : Nat) (OUT S5 ST SR KEY TL : ByteArray) (y2 : Int) (Y0 Y1 : Nat) (g : Nat) : Nat → Value
  | 0 => .string OUT
  | 1 => .pointer (some ⟨bw, 2, none⟩)
  | 2 => .int .i64 y2
  | 3 => .int .u8 y2
  | 4 => .slice (some ⟨g, 0, none⟩) 1 1
  | 5 => .string S5
  | 6 => .pointer (some ⟨bw, 0, none⟩)
  | 7 => .pointer (some ⟨bw, 0, none⟩)
  | 8 => .int .i64 (Y0 : Int)
  | 9 => .int .u64 (Y0 : Int)
  | 10 => .string ST
  | 11 => .string (S5 ++ ST)
  | 12 => .pointer (some ⟨bw, 0, none⟩)
  | 13 => .pointer (some ⟨bw, 1, none⟩)
  | 14 => .int .i64 (Y1 : Int)
  | 15 => .int .u64 (Y1 : Int)
  | 16 => .string SR
  | 17 => .string (S5 ++ ST ++ SR)
  | 18 => .string KEY
  | 19 => .string (S5 ++ ST ++ SR ++ KEY)
  | 20 => .string TL
  | 21 => .string (S5 ++ ST ++ SR ++ KEY ++ TL)
  | 22 => .string (OUT ++ (S5 ++ ST ++ SR ++ KEY ++ TL))
  | 23 => .string (OUT ++ (S5 ++ ST ++ SR ++ KEY ++ TL))
  | _ => undef
set_option maxHeartbeats 8000000 in
set_option maxRecDepth 100000 in
theorem ofirst_any (w : World) (x : BatArg) (hb : Bat w x) (hf : ∀ y ∈ x.f, entFits y) (hh : ∀ y ∈ x.h, entFits y) (hg : Handle w) :
    Calls Tryz.prog 10 #[x.v] w fun e w' => ∃ v, e = .returned (.tuple #[.string (firstOf x.f x.h x.l).1, v]) ∧ ErrOf w' v (firstOf x.f x.h x.l).2 ∧ Below w.heap.size w w' := by
  have hbx := BxAt.new w x
  have b0 := below1 w (.cells #[.slice x.A x.n x.c, .slice x.A' x.n' x.c', .slice x.A'' x.n'' x.c''] 25)
  have hb0 := hb.grow b0
  have hg0 := hg.below b0
  obtain ⟨A, n, c, A', n', c', A'', n'', c'', f, h, l⟩ := x
  obtain ⟨sf, sh, sl, nf, nh, nl⟩ := hb
  simp only at hbx b0 hf hh sf sh sl nf nh nl hb0 ⊢
  have ef : Ents w w.heap.size A n f := ⟨sf, hf⟩
  have eh : Ents w w.heap.size A' n' h := ⟨sh, hh⟩
  obtain ⟨q0, q1, q2⟩ := hbx
  simp only at q0 q1 q2
  unfold BatArg.v
  simp only
  go_enter Tryz.func10, Tryz.ntmps10
  go_wp2_with fail
  refine (bright_any _ ⟨A, n, c, A', n', c', A'', n'', c'', f, h, l⟩ hb0 ef.2 eh.2 hg0).mono ?_
  rintro e W1 ⟨v1, rfl, hv1, hb1⟩
  simp only at hv1
  have b1 := b0.trans (hb1.mono b0.size)
  by_cases hbad : (bright f h l).1 = 0
  · obtain rfl := err_nil hv1 hbad
    replace q0 := (hb1.cell (cell_lt q0)).trans q0
    replace q1 := (hb1.cell (cell_lt q1)).trans q1
    replace q2 := (hb1.cell (cell_lt q2)).trans q2
    have ef1 := ef.grow b1
    have eh1 := eh.grow b1
    obtain ⟨hbr, hvf, hvh, h60, hwr⟩ := bright_ok hbad
    have hll := slk_len wrCells 6 (by omega) (fun _ => rfl) sl
    have h60n : n'' ≤ 60 := by rw [← hll]; exact h60
    have HB := Lib.hid hbad
    have HF := Lib.hid hvf
    have HH := Lib.hid hvh
    have HW := Lib.hid (fun x hx => (hwr x hx).1)
    obtain ⟨t1, t2, t3, t4, t5⟩ := st_facts hvf hvh h60n
    obtain ⟨PF, hPF⟩ : ∃ S, S = strOf (pbytes f) := ⟨_, rfl⟩
    obtain ⟨PH, hPH⟩ : ∃ S, S = strOf (pbytes h) := ⟨_, rfl⟩
    obtain ⟨SN, hSN⟩ : ∃ S, S = strOf (vput n'') := ⟨_, rfl⟩
    have UN := u64_in (G := n'') (by omega)
    rw [← hPF] at t1
    rw [← hPF, ← hPH] at t2
    rw [← hPF, ← hPH, ← hSN] at t3 t4
    clear hbad hbr hvf hvh sf sh hf hh hwr h60
    clear hv1 hb1 b0 ef eh hb0 hg0
    go_wp2_with fail
    refine Flow.wp_region_go (by kernel_rfl) (by kernel_rfl) (by kernel_rfl) 75 rfl (by kernel_rfl) (ofV w.heap.size A n c A' n' c' A'' n'' c'' PF PH SN) (fun _ _ wz => Below W1.heap.size W1 wz) (fun _ _ => False) (()) ((Below.refl _ _).drew) ⟨?_, ?_, ?_, ?_, ?_, ?_, ?_, ?_, ?_, ?_, ?_, ?_, ?_, ?_, ?_, trivial⟩ ?_ ?_
    · intro g L wz K ρ hc0 hf0 hF hO hU hcl hi hd hC hK
      have e1 : ρ (.tmp 1) = .pointer (some ⟨w.heap.size, 0, none⟩) := hO 1 (by kernel_rfl)
      simp [go_sem, Flow.ylP_value, Flow.ylP_skip, Flow.ylP_enter, Flow.ylP_panic, hc0, hf0, e1]
      exact hK g wz hC (fun _ _ => rfl)
    · intro g L wz K ρ hc0 hf0 hF hO hU hcl hi hd hC hK
      have d0 : L 0 = true := hd ⟨0, .data⟩ (by simp) rfl
      have e17 : ρ (.tmp 17) = .pointer (some ⟨w.heap.size, 0, none⟩) := hF 17 0 (by kernel_rfl) d0
      have cc := (hC.cell (cell_lt q0)).trans q0
      simp [go_sem, Flow.ylP_value, Flow.ylP_skip, Flow.ylP_enter, Flow.ylP_panic, hc0, hf0, e17, cc]
      exact hK g wz hC (fun _ _ => rfl)
    · intro g L wz K ρ hc0 hf0 hF hO hU hcl hi hd hC hK
      have d1 : L 1 = true := hd ⟨1, .data⟩ (by simp) rfl
      have e18 : ρ (.tmp 18) = .slice A n c := hF 18 1 (by kernel_rfl) d1
      simp [go_sem, Flow.ylP_value, Flow.ylP_skip, Flow.ylP_enter, Flow.ylP_panic, hc0, hf0, e18]
      refine (oplain_any wz n c A f (ef1.grow hC) HF.out).mono ?_
      rintro r wn ⟨rfl, hbn⟩
      rw [← hPF]
      exact ⟨_, rfl, hK () wn (hC.trans (hbn.mono hC.size)) (by intro j hj; unfold ofV; split <;> first | rfl | (rw [hi] at hj; cases hj) | (have hz := hcl _ 2 (by kernel_rfl) hj; rw [hi] at hz; cases hz))⟩
    · intro g L wz K ρ hc0 hf0 hF hO hU hcl hi hd hC hK
      have d2 : L 2 = true := hd ⟨2, .data⟩ (by simp) rfl
      have e19 : ρ (.tmp 19) = .string PF := hF 19 2 (by kernel_rfl) d2
      simp [go_sem, Flow.ylP_value, Flow.ylP_skip, Flow.ylP_enter, Flow.ylP_panic, hc0, hf0, e19, t1]
      exact hK g wz hC (fun _ _ => rfl)
    · intro g L wz K ρ hc0 hf0 hF hO hU hcl hi hd hC hK
      have e1 : ρ (.tmp 1) = .pointer (some ⟨w.heap.size, 0, none⟩) := hO 1 (by kernel_rfl)
      simp [go_sem, Flow.ylP_value, Flow.ylP_skip, Flow.ylP_enter, Flow.ylP_panic, hc0, hf0, e1]
      exact hK g wz hC (fun _ _ => rfl)
    · intro g L wz K ρ hc0 hf0 hF hO hU hcl hi hd hC hK
      have d4 : L 4 = true := hd ⟨4, .data⟩ (by simp) rfl
      have e21 : ρ (.tmp 21) = .pointer (some ⟨w.heap.size, 1, none⟩) := hF 21 4 (by kernel_rfl) d4
      have cc := (hC.cell (cell_lt q1)).trans q1
      simp [go_sem, Flow.ylP_value, Flow.ylP_skip, Flow.ylP_enter, Flow.ylP_panic, hc0, hf0, e21, cc]
      exact hK g wz hC (fun _ _ => rfl)
    · intro g L wz K ρ hc0 hf0 hF hO hU hcl hi hd hC hK
      have d5 : L 5 = true := hd ⟨5, .data⟩ (by simp) rfl
      have e22 : ρ (.tmp 22) = .slice A' n' c' := hF 22 5 (by kernel_rfl) d5
      simp [go_sem, Flow.ylP_value, Flow.ylP_skip, Flow.ylP_enter, Flow.ylP_panic, hc0, hf0, e22]
      refine (oplain_any wz n' c' A' h (eh1.grow hC) HH.out).mono ?_
      rintro r wn ⟨rfl, hbn⟩
      rw [← hPH]
      exact ⟨_, rfl, hK () wn (hC.trans (hbn.mono hC.size)) (by intro j hj; unfold ofV; split <;> first | rfl | (rw [hi] at hj; cases hj) | (have hz := hcl _ 6 (by kernel_rfl) hj; rw [hi] at hz; cases hz))⟩
    · intro g L wz K ρ hc0 hf0 hF hO hU hcl hi hd hC hK
      have d3 : L 3 = true := hd ⟨3, .data⟩ (by simp) rfl
      have e20 : ρ (.tmp 20) = .string ((⟨#[80, 84, 1]⟩ : ByteArray) ++ PF) := hF 20 3 (by kernel_rfl) d3
      have d6 : L 6 = true := hd ⟨6, .data⟩ (by simp) rfl
      have e23 : ρ (.tmp 23) = .string PH := hF 23 6 (by kernel_rfl) d6
      simp [go_sem, Flow.ylP_value, Flow.ylP_skip, Flow.ylP_enter, Flow.ylP_panic, hc0, hf0, e20, e23, t2]
      exact hK g wz hC (fun _ _ => rfl)
    · intro g L wz K ρ hc0 hf0 hF hO hU hcl hi hd hC hK
      have e1 : ρ (.tmp 1) = .pointer (some ⟨w.heap.size, 0, none⟩) := hO 1 (by kernel_rfl)
      simp [go_sem, Flow.ylP_value, Flow.ylP_skip, Flow.ylP_enter, Flow.ylP_panic, hc0, hf0, e1]
      exact hK g wz hC (fun _ _ => rfl)
    · intro g L wz K ρ hc0 hf0 hF hO hU hcl hi hd hC hK
      have d8 : L 8 = true := hd ⟨8, .data⟩ (by simp) rfl
      have e25 : ρ (.tmp 25) = .pointer (some ⟨w.heap.size, 2, none⟩) := hF 25 8 (by kernel_rfl) d8
      have cc := (hC.cell (cell_lt q2)).trans q2
      simp [go_sem, Flow.ylP_value, Flow.ylP_skip, Flow.ylP_enter, Flow.ylP_panic, hc0, hf0, e25, cc]
      exact hK g wz hC (fun _ _ => rfl)
    · intro g L wz K ρ hc0 hf0 hF hO hU hcl hi hd hC hK
      have d9 : L 9 = true := hd ⟨9, .data⟩ (by simp) rfl
      have e26 : ρ (.tmp 26) = .slice A'' n'' c'' := hF 26 9 (by kernel_rfl) d9
      simp [go_sem, Flow.ylP_value, Flow.ylP_skip, Flow.ylP_enter, Flow.ylP_panic, hc0, hf0, e26]
      exact hK g wz hC (fun _ _ => rfl)
    · intro g L wz K ρ hc0 hf0 hF hO hU hcl hi hd hC hK
      have d10 : L 10 = true := hd ⟨10, .data⟩ (by simp) rfl
      have e27 : ρ (.tmp 27) = .int .i64 (n'' : Int) := hF 27 10 (by kernel_rfl) d10
      simp [go_sem, Flow.ylP_value, Flow.ylP_skip, Flow.ylP_enter, Flow.ylP_panic, hc0, hf0, e27, UN]
      exact hK g wz hC (fun _ _ => rfl)
    · intro g L wz K ρ hc0 hf0 hF hO hU hcl hi hd hC hK
      have d11 : L 11 = true := hd ⟨11, .data⟩ (by simp) rfl
      have e28 : ρ (.tmp 28) = .int .u64 (n'' : Int) := hF 28 11 (by kernel_rfl) d11
      simp [go_sem, Flow.ylP_value, Flow.ylP_skip, Flow.ylP_enter, Flow.ylP_panic, hc0, hf0, e28]
      refine (vput_any n'' wz (by omega)).mono ?_
      rintro r wn ⟨rfl, hbn⟩
      rw [show (⟨(vput n'').toArray⟩ : ByteArray) = strOf (vput n'') from rfl, ← hSN]
      exact ⟨_, rfl, hK () wn (hC.trans (hbn.mono hC.size)) (by intro j hj; unfold ofV; split <;> first | rfl | (rw [hi] at hj; cases hj) | (have hz := hcl _ 12 (by kernel_rfl) hj; rw [hi] at hz; cases hz))⟩
    · intro g L wz K ρ hc0 hf0 hF hO hU hcl hi hd hC hK
      have d7 : L 7 = true := hd ⟨7, .data⟩ (by simp) rfl
      have e24 : ρ (.tmp 24) = .string ((⟨#[80, 84, 1]⟩ : ByteArray) ++ PF ++ PH) := hF 24 7 (by kernel_rfl) d7
      have d12 : L 12 = true := hd ⟨12, .data⟩ (by simp) rfl
      have e29 : ρ (.tmp 29) = .string SN := hF 29 12 (by kernel_rfl) d12
      simp [go_sem, Flow.ylP_value, Flow.ylP_skip, Flow.ylP_enter, Flow.ylP_panic, hc0, hf0, e24, e29, t3]
      exact hK g wz hC (fun _ _ => rfl)
    · intro g L wz K ρ hc0 hf0 hF hO hU hcl hi hd hC hK
      have d13 : L 13 = true := hd ⟨13, .data⟩ (by simp) rfl
      have e30 : ρ (.tmp 30) = .string ((⟨#[80, 84, 1]⟩ : ByteArray) ++ PF ++ PH ++ SN) := hF 30 13 (by kernel_rfl) d13
      simp [go_sem, Flow.ylP_value, Flow.ylP_skip, Flow.ylP_enter, Flow.ylP_panic, hc0, hf0, e30]
      exact hK g wz hC (fun _ _ => rfl)
    · intro g L ch wz h; exact h.elim
    · intro g L wz hL hC
      have b4 := b1.trans (hC.mono b1.size)
      replace q2 := (hC.cell (cell_lt q2)).trans q2
      have sl4 := sl.grow b4
      obtain ⟨F, hF'⟩ : ∃ F, F = fstart f h n'' := ⟨_, rfl⟩
      simp only [Flow.putAll, ofV]
      rw [t4, ← hF']
      rw [← hF'] at t5
      have HFS := Lib.hid hF'
      clear hF' hC ef1 eh1 sl t1 t2 t3 t4 UN hPF hPH hSN q0 q1
      generalize wz = w4 at *
      go_wp2
      go_loopw [5, 7, 8, 9, 10, 11, 34] (fun ov _ _ _ _ _ kv wr => ∃ k : Nat, k ≤ n'' ∧ kv = .int .i64 k ∧ ov = .string (strOf (F ++ (l.take k).flatMap wfirst)) ∧ Below w4.heap.size w4 wr) (fun _ _ _ _ _ _ kv _ => n'' - (intOf kv).toNat)
      case atStart => exact ⟨0, Nat.zero_le _, rfl, by simp, Below.refl _ _⟩
      case round =>
        obtain ⟨k, hk, rfl, rfl, hbel⟩ := hrel
        have hB := hbel.size
        by_cases hlt : k < n''
        · obtain ⟨b, o, y, rfl, hb, hx, hc⟩ := wr_at sl4 hlt
          obtain ⟨Y0, Y1, y2, y3, y4, y5, rfl, l0, l1, hy0, hy1, U8, hy3⟩ := wr_nat (HW.out _ (List.mem_of_getElem? hx))
          have c0 := (hbel.cell (p := ⟨b, _, none⟩) hb).trans (hc 0 _ rfl)
          have c1 := (hbel.cell (p := ⟨b, _, none⟩) hb).trans (hc 1 _ rfl)
          have c2 := (hbel.cell (p := ⟨b, _, none⟩) hb).trans (hc 2 _ rfl)
          have c3 := (hbel.cell (p := ⟨b, _, none⟩) hb).trans (hc 3 _ rfl)
          have c4 := (hbel.cell (p := ⟨b, _, none⟩) hb).trans (hc 4 _ rfl)
          have c5 := (hbel.cell (p := ⟨b, _, none⟩) hb).trans (hc 5 _ rfl)
          simp only [Nat.add_zero] at c0
          have HX := Lib.hid hx
          have hW := WrAt.new wr (Y0 : Int) (Y1 : Int) y2 y3 y4 y5
          have bA := below1 wr (wrO (Y0 : Int) (Y1 : Int) y2 y3 y4 y5)
          clear hc hx
          obtain ⟨k0, k1, k2, k3, k4, k5⟩ := hW
          go_wp2_with fail
          refine (spanput_any y3 _ hy3).mono ?_
          rintro e w5 ⟨rfl, hb5⟩
          have hb15 := bA.trans (hb5.mono bA.size)
          replace k0 := (hb5.cell (cell_lt k0)).trans k0
          replace k1 := (hb5.cell (cell_lt k1)).trans k1
          replace k2 := (hb5.cell (cell_lt k2)).trans k2
          replace k3 := (hb5.cell (cell_lt k3)).trans k3
          replace k4 := (hb5.cell (cell_lt k4)).trans k4
          replace k5 := (hb5.cell (cell_lt k5)).trans k5
          go_wp2_with fail
          refine (tail_any ((Y0 : Int), (Y1 : Int), y2, y3, y4, y5) _).mono ?_
          rintro e w8 ⟨rfl, hb8'⟩
          have hb8 := hbel.trans ((hb15.trans (hb8'.mono hb15.size)).mono hB)
          replace k0 := (hb8'.cell (cell_lt k0)).trans k0
          replace k1 := (hb8'.cell (cell_lt k1)).trans k1
          replace k2 := (hb8'.cell (cell_lt k2)).trans k2
          obtain ⟨OUT, hOUT⟩ : ∃ S, S = strOf (F ++ (l.take k).flatMap wfirst) := ⟨_, rfl⟩
          obtain ⟨S5, hS5⟩ : ∃ S, S = strOf [UInt8.ofNat y2.toNat] := ⟨_, rfl⟩
          obtain ⟨ST, hST⟩ : ∃ S, S = strOf (vput Y0) := ⟨_, rfl⟩
          obtain ⟨SR, hSR⟩ : ∃ S, S = strOf (vput Y1) := ⟨_, rfl⟩
          obtain ⟨KEY, hKEY⟩ : ∃ S, S = (spanOf y3).1 := ⟨_, rfl⟩
          obtain ⟨TL, hTL⟩ : ∃ S, S = (wtail ((Y0 : Int), (Y1 : Int), y2, y3, y4, y5)).1 := ⟨_, rfl⟩
          obtain ⟨z1, z2, z3, z4, z5, z6⟩ := wf_facts HW.out HX.out t5 (by omega) hOUT hS5 hST hSR hKEY hTL
          have U0 := u64_in l0
          have U1 := u64_in l1
          have HS5 := Lib.hid hS5
          rw [← hOUT, ← hKEY, ← hTL]
          clear hOUT hS5 hKEY hTL hbel hb15 bA c0 c1 c2 c3 c4 c5 k3 k4 k5 hb5 hb8'
          go_wp2_with fail
          refine Flow.wp_region_go (by kernel_rfl) (by kernel_rfl) (by kernel_rfl) 75 rfl (by kernel_rfl) (owV wr.heap.size OUT S5 ST SR KEY TL y2 Y0 Y1) (fun g L wz => BI w8 y2 g true (L 4) false wz) (fun _ _ => False) (0) (⟨(Below.refl _ _).drew, fun h => (by cases h), fun h => (by cases h)⟩) ⟨?_, ?_, ?_, ?_, ?_, ?_, ?_, ?_, ?_, ?_, ?_, ?_, ?_, ?_, ?_, ?_, ?_, ?_, ?_, ?_, ?_, ?_, ?_, ?_, trivial⟩ ?_ ?_
          · intro g L wz K ρ hc0 hf0 hF hO hU hcl hi hd hC hK
            have e5 : ρ (.tmp 5) = .string OUT := hU 5 23 (by kernel_rfl) (by cases h : L 23 with | false => rfl | true => (have := hcl 23 0 (by kernel_rfl) h; rw [hi] at this; cases this))
            simp [go_sem, Flow.ylP_value, Flow.ylP_skip, Flow.ylP_enter, Flow.ylP_panic, hc0, hf0, e5]
            exact hK g wz hC (fun _ _ => rfl)
          · intro g L wz K ρ hc0 hf0 hF hO hU hcl hi hd hC hK
            have e7 : ρ (.tmp 7) = .pointer (some ⟨wr.heap.size, 0, none⟩) := hO 7 (by kernel_rfl)
            simp [go_sem, Flow.ylP_value, Flow.ylP_skip, Flow.ylP_enter, Flow.ylP_panic, hc0, hf0, e7]
            exact hK g wz hC (fun _ _ => rfl)
          · intro g L wz K ρ hc0 hf0 hF hO hU hcl hi hd hC hK
            have d1 : L 1 = true := hd ⟨1, .data⟩ (by simp) rfl
            have e50 : ρ (.tmp 50) = .pointer (some ⟨wr.heap.size, 2, none⟩) := hF 50 1 (by kernel_rfl) d1
            have cc := (hC.bel.cell (cell_lt k2)).trans k2
            simp [go_sem, Flow.ylP_value, Flow.ylP_skip, Flow.ylP_enter, Flow.ylP_panic, hc0, hf0, e50, cc]
            exact hK g wz hC (fun _ _ => rfl)
          · intro g L wz K ρ hc0 hf0 hF hO hU hcl hi hd hC hK
            have d2 : L 2 = true := hd ⟨2, .data⟩ (by simp) rfl
            have e51 : ρ (.tmp 51) = .int .i64 y2 := hF 51 2 (by kernel_rfl) d2
            simp [go_sem, Flow.ylP_value, Flow.ylP_skip, Flow.ylP_enter, Flow.ylP_panic, hc0, hf0, e51, U8]
            exact hK g wz hC (fun _ _ => rfl)
          · intro g L wz K ρ hc0 hf0 hF hO hU hcl hi hd hC hK
            have d3 : L 3 = true := hd ⟨3, .data⟩ (by simp) rfl
            have e52 : ρ (.tmp 52) = .int .u8 y2 := hF 52 3 (by kernel_rfl) d3
            simp [go_sem, Flow.ylP_value, Flow.ylP_skip, Flow.ylP_enter, Flow.ylP_panic, hc0, hf0, e52]
            rw [hi] at hC
            refine hK wz.heap.size _ hC.build (by intro j hj; unfold owV; split <;> first | rfl | (rw [hi] at hj; cases hj) | (have hz := hcl _ 4 (by kernel_rfl) hj; rw [hi] at hz; cases hz))
          · intro g L wz K ρ hc0 hf0 hF hO hU hcl hi hd hC hK
            have d4 : L 4 = true := hd ⟨4, .data⟩ (by simp) rfl
            have e53 : ρ (.tmp 53) = .slice (some ⟨g, 0, none⟩) 1 1 := hF 53 4 (by kernel_rfl) d4
            have hst := hC.str (P := Tryz.prog) d4 HS5.out hy0 hy1 61 5 9 Tryz.underlying61 Tryz.underlying5 Tryz.underlying9
            simp [go_sem, Flow.ylP_value, Flow.ylP_skip, Flow.ylP_enter, Flow.ylP_panic, hc0, hf0, e53, hst]
            exact hK g wz hC (fun _ _ => rfl)
          · intro g L wz K ρ hc0 hf0 hF hO hU hcl hi hd hC hK
            have e7 : ρ (.tmp 7) = .pointer (some ⟨wr.heap.size, 0, none⟩) := hO 7 (by kernel_rfl)
            simp [go_sem, Flow.ylP_value, Flow.ylP_skip, Flow.ylP_enter, Flow.ylP_panic, hc0, hf0, e7]
            exact hK g wz hC (fun _ _ => rfl)
          · intro g L wz K ρ hc0 hf0 hF hO hU hcl hi hd hC hK
            have d6 : L 6 = true := hd ⟨6, .data⟩ (by simp) rfl
            have e55 : ρ (.tmp 55) = .pointer (some ⟨wr.heap.size, 0, none⟩) := hF 55 6 (by kernel_rfl) d6
            simp [go_sem, Flow.ylP_value, Flow.ylP_skip, Flow.ylP_enter, Flow.ylP_panic, hc0, hf0, e55]
            exact hK g wz hC (fun _ _ => rfl)
          · intro g L wz K ρ hc0 hf0 hF hO hU hcl hi hd hC hK
            have d7 : L 7 = true := hd ⟨7, .data⟩ (by simp) rfl
            have e56 : ρ (.tmp 56) = .pointer (some ⟨wr.heap.size, 0, none⟩) := hF 56 7 (by kernel_rfl) d7
            have cc := (hC.bel.cell (cell_lt k0)).trans k0
            simp [go_sem, Flow.ylP_value, Flow.ylP_skip, Flow.ylP_enter, Flow.ylP_panic, hc0, hf0, e56, cc]
            exact hK g wz hC (fun _ _ => rfl)
          · intro g L wz K ρ hc0 hf0 hF hO hU hcl hi hd hC hK
            have d8 : L 8 = true := hd ⟨8, .data⟩ (by simp) rfl
            have e57 : ρ (.tmp 57) = .int .i64 (Y0 : Int) := hF 57 8 (by kernel_rfl) d8
            simp [go_sem, Flow.ylP_value, Flow.ylP_skip, Flow.ylP_enter, Flow.ylP_panic, hc0, hf0, e57, U0]
            exact hK g wz hC (fun _ _ => rfl)
          · intro g L wz K ρ hc0 hf0 hF hO hU hcl hi hd hC hK
            have d9 : L 9 = true := hd ⟨9, .data⟩ (by simp) rfl
            have e58 : ρ (.tmp 58) = .int .u64 (Y0 : Int) := hF 58 9 (by kernel_rfl) d9
            simp [go_sem, Flow.ylP_value, Flow.ylP_skip, Flow.ylP_enter, Flow.ylP_panic, hc0, hf0, e58]
            refine (vput_any Y0 wz (by omega)).mono ?_
            rintro r wn ⟨rfl, hbn⟩
            rw [show (⟨(vput Y0).toArray⟩ : ByteArray) = strOf (vput Y0) from rfl, ← hST]
            exact ⟨_, rfl, hK g wn (hC.grow hbn) (by intro j hj; unfold owV; split <;> first | rfl | (rw [hi] at hj; cases hj) | (have hz := hcl _ 10 (by kernel_rfl) hj; rw [hi] at hz; cases hz))⟩
          · intro g L wz K ρ hc0 hf0 hF hO hU hcl hi hd hC hK
            have d5 : L 5 = true := hd ⟨5, .data⟩ (by simp) rfl
            have e54 : ρ (.tmp 54) = .string S5 := hF 54 5 (by kernel_rfl) d5
            have d10 : L 10 = true := hd ⟨10, .data⟩ (by simp) rfl
            have e59 : ρ (.tmp 59) = .string ST := hF 59 10 (by kernel_rfl) d10
            simp [go_sem, Flow.ylP_value, Flow.ylP_skip, Flow.ylP_enter, Flow.ylP_panic, hc0, hf0, e54, e59, z1]
            exact hK g wz hC (fun _ _ => rfl)
          · intro g L wz K ρ hc0 hf0 hF hO hU hcl hi hd hC hK
            have e7 : ρ (.tmp 7) = .pointer (some ⟨wr.heap.size, 0, none⟩) := hO 7 (by kernel_rfl)
            simp [go_sem, Flow.ylP_value, Flow.ylP_skip, Flow.ylP_enter, Flow.ylP_panic, hc0, hf0, e7]
            exact hK g wz hC (fun _ _ => rfl)
          · intro g L wz K ρ hc0 hf0 hF hO hU hcl hi hd hC hK
            have d12 : L 12 = true := hd ⟨12, .data⟩ (by simp) rfl
            have e61 : ρ (.tmp 61) = .pointer (some ⟨wr.heap.size, 0, none⟩) := hF 61 12 (by kernel_rfl) d12
            simp [go_sem, Flow.ylP_value, Flow.ylP_skip, Flow.ylP_enter, Flow.ylP_panic, hc0, hf0, e61]
            exact hK g wz hC (fun _ _ => rfl)
          · intro g L wz K ρ hc0 hf0 hF hO hU hcl hi hd hC hK
            have d13 : L 13 = true := hd ⟨13, .data⟩ (by simp) rfl
            have e62 : ρ (.tmp 62) = .pointer (some ⟨wr.heap.size, 1, none⟩) := hF 62 13 (by kernel_rfl) d13
            have cc := (hC.bel.cell (cell_lt k1)).trans k1
            simp [go_sem, Flow.ylP_value, Flow.ylP_skip, Flow.ylP_enter, Flow.ylP_panic, hc0, hf0, e62, cc]
            exact hK g wz hC (fun _ _ => rfl)
          · intro g L wz K ρ hc0 hf0 hF hO hU hcl hi hd hC hK
            have d14 : L 14 = true := hd ⟨14, .data⟩ (by simp) rfl
            have e63 : ρ (.tmp 63) = .int .i64 (Y1 : Int) := hF 63 14 (by kernel_rfl) d14
            simp [go_sem, Flow.ylP_value, Flow.ylP_skip, Flow.ylP_enter, Flow.ylP_panic, hc0, hf0, e63, U1]
            exact hK g wz hC (fun _ _ => rfl)
          · intro g L wz K ρ hc0 hf0 hF hO hU hcl hi hd hC hK
            have d15 : L 15 = true := hd ⟨15, .data⟩ (by simp) rfl
            have e64 : ρ (.tmp 64) = .int .u64 (Y1 : Int) := hF 64 15 (by kernel_rfl) d15
            simp [go_sem, Flow.ylP_value, Flow.ylP_skip, Flow.ylP_enter, Flow.ylP_panic, hc0, hf0, e64]
            refine (vput_any Y1 wz (by omega)).mono ?_
            rintro r wn ⟨rfl, hbn⟩
            rw [show (⟨(vput Y1).toArray⟩ : ByteArray) = strOf (vput Y1) from rfl, ← hSR]
            exact ⟨_, rfl, hK g wn (hC.grow hbn) (by intro j hj; unfold owV; split <;> first | rfl | (rw [hi] at hj; cases hj) | (have hz := hcl _ 16 (by kernel_rfl) hj; rw [hi] at hz; cases hz))⟩
          · intro g L wz K ρ hc0 hf0 hF hO hU hcl hi hd hC hK
            have d11 : L 11 = true := hd ⟨11, .data⟩ (by simp) rfl
            have e60 : ρ (.tmp 60) = .string (S5 ++ ST) := hF 60 11 (by kernel_rfl) d11
            have d16 : L 16 = true := hd ⟨16, .data⟩ (by simp) rfl
            have e65 : ρ (.tmp 65) = .string SR := hF 65 16 (by kernel_rfl) d16
            simp [go_sem, Flow.ylP_value, Flow.ylP_skip, Flow.ylP_enter, Flow.ylP_panic, hc0, hf0, e60, e65, z2]
            exact hK g wz hC (fun _ _ => rfl)
          · intro g L wz K ρ hc0 hf0 hF hO hU hcl hi hd hC hK
            have e8 : ρ (.tmp 8) = .string KEY := hO 8 (by kernel_rfl)
            simp [go_sem, Flow.ylP_value, Flow.ylP_skip, Flow.ylP_enter, Flow.ylP_panic, hc0, hf0, e8]
            exact hK g wz hC (fun _ _ => rfl)
          · intro g L wz K ρ hc0 hf0 hF hO hU hcl hi hd hC hK
            have d17 : L 17 = true := hd ⟨17, .data⟩ (by simp) rfl
            have e66 : ρ (.tmp 66) = .string (S5 ++ ST ++ SR) := hF 66 17 (by kernel_rfl) d17
            have d18 : L 18 = true := hd ⟨18, .data⟩ (by simp) rfl
            have e67 : ρ (.tmp 67) = .string KEY := hF 67 18 (by kernel_rfl) d18
            simp [go_sem, Flow.ylP_value, Flow.ylP_skip, Flow.ylP_enter, Flow.ylP_panic, hc0, hf0, e66, e67, z3]
            exact hK g wz hC (fun _ _ => rfl)
          · intro g L wz K ρ hc0 hf0 hF hO hU hcl hi hd hC hK
            have e10 : ρ (.tmp 10) = .string TL := hO 10 (by kernel_rfl)
            simp [go_sem, Flow.ylP_value, Flow.ylP_skip, Flow.ylP_enter, Flow.ylP_panic, hc0, hf0, e10]
            exact hK g wz hC (fun _ _ => rfl)
          · intro g L wz K ρ hc0 hf0 hF hO hU hcl hi hd hC hK
            have d19 : L 19 = true := hd ⟨19, .data⟩ (by simp) rfl
            have e68 : ρ (.tmp 68) = .string (S5 ++ ST ++ SR ++ KEY) := hF 68 19 (by kernel_rfl) d19
            have d20 : L 20 = true := hd ⟨20, .data⟩ (by simp) rfl
            have e69 : ρ (.tmp 69) = .string TL := hF 69 20 (by kernel_rfl) d20
            simp [go_sem, Flow.ylP_value, Flow.ylP_skip, Flow.ylP_enter, Flow.ylP_panic, hc0, hf0, e68, e69, z4]
            exact hK g wz hC (fun _ _ => rfl)
          · intro g L wz K ρ hc0 hf0 hF hO hU hcl hi hd hC hK
            have d0 : L 0 = true := hd ⟨0, .data⟩ (by simp) rfl
            have e49 : ρ (.tmp 49) = .string OUT := hF 49 0 (by kernel_rfl) d0
            have d21 : L 21 = true := hd ⟨21, .data⟩ (by simp) rfl
            have e70 : ρ (.tmp 70) = .string (S5 ++ ST ++ SR ++ KEY ++ TL) := hF 70 21 (by kernel_rfl) d21
            simp [go_sem, Flow.ylP_value, Flow.ylP_skip, Flow.ylP_enter, Flow.ylP_panic, hc0, hf0, e49, e70, z5]
            exact hK g wz hC (fun _ _ => rfl)
          · intro g L wz K ρ hc0 hf0 hF hO hU hcl hi hd hC hK
            have d22 : L 22 = true := hd ⟨22, .data⟩ (by simp) rfl
            have e71 : ρ (.tmp 71) = .string (OUT ++ (S5 ++ ST ++ SR ++ KEY ++ TL)) := hF 71 22 (by kernel_rfl) d22
            simp [go_sem, Flow.ylP_value, Flow.ylP_skip, Flow.ylP_enter, Flow.ylP_panic, hc0, hf0, e71]
            exact hK g wz hC (fun _ _ => rfl)
          · intro g L ch wz h; exact h.elim
          · intro g L wz hL hC
            simp only [Flow.putAll, owV]
            go_wp2
            go_roundw
            case rel => exact ⟨k + 1, hlt, by go_num, by first | exact congrArg Value.string z6 | (rw [hST, hSR] at z6; exact congrArg Value.string z6), hb8.trans (hC.bel.mono hb8.size)⟩
            case measure => exact meas_next hlt
        · obtain rfl : k = n'' := Nat.le_antisymm hk (Nat.not_lt.1 hlt)
          have hlk : l.take k = l := List.take_of_length_le (by rw [hll]; exact Nat.le_refl _)
          have bF := b4.trans (hbel.mono b4.size)
          obtain ⟨BY, hBY⟩ : ∃ B, B = strOf (F ++ l.flatMap wfirst) := ⟨_, rfl⟩
          have hbs : BY.size ≤ 1000000 := by rw [hBY, HFS.out, ← hll]; exact fb_size HB.out
          have hrr : firstOf f h l = (sealOf BY, 0, -1) := by rw [first_good HB.out, hBY, HFS.out, ← hll]; rfl
          have HRR := Lib.hid hrr
          rw [hlk, ← hBY]
          clear hlk hBY hrr
          go_wp2_with fail
          refine (seal_any BY _ hbs).mono ?_
          rintro r w9 ⟨rfl, hb9⟩
          have b9 := bF.trans (hb9.mono bF.size)
          go_wp2
          go_ret2
          exact ⟨_, by rw [HRR.out]; rfl, by rw [HRR.out]; exact .none, b9⟩
  · have hr := Lib.hid (first_bad hbad)
    obtain ⟨ty, u, rfl⟩ := err_some hv1 hbad
    have HV := Lib.hid hv1
    clear hv1 hbad
    go_wp2
    go_ret2
    rw [hr.out]
    exact ⟨_, rfl, HV.out, b1⟩
end Go.Proofs.YtkejlnjnoiidnaaGreatDoor
end

section
namespace Go.Proofs.YtkejlnjnoiidnaaGreatDoor
set_option linter.unusedSimpArgs false
set_option linter.unusedVariables false
open Go.RowKit As Tokens
theorem ferr_nil {w : World} {v : Value} {e p : Int} (h : ErrIs w v e p) (h0 : e = 0) : v = .nilIface := by
  subst h0
  exact (ErrIs.zero h).1
theorem ferr_some {w : World} {v : Value} {e p : Int} (h : ErrIs w v e p) (h0 : e ≠ 0) : ∃ t u, v = .iface t u := by
  cases h with
  | none => exact absurd rfl h0
  | bare _ _ => exact ⟨_, _, rfl⟩
  | at_ _ _ _ _ _ _ _ => exact ⟨_, _, rfl⟩
set_option maxHeartbeats 2000000 in
set_option maxRecDepth 100000 in
theorem framewrite_any (w : World) (x : BatArg) (hb : Bat w x) (hf : ∀ y ∈ x.f, entFits y) (hh : ∀ y ∈ x.h, entFits y) (hcf : x.n ≤ x.c) (hch : x.n' ≤ x.c') (hg : Handle w) :
    Calls Tryz.prog 15 #[x.v] w fun e w' => ∃ v, e = .returned (.tuple #[.string (frameOf (bwrite x.f x.h x.l)).1, v]) ∧ ErrOf w' v (frameOf (bwrite x.f x.h x.l)).2 ∧ Below w.heap.size w w' := by
  have hbx := BxAt.new w x
  have b0 := below1 w (.cells #[.slice x.A x.n x.c, .slice x.A' x.n' x.c', .slice x.A'' x.n'' x.c''] 25)
  have hb0 := hb.grow b0
  have hg0 := hg.below b0
  obtain ⟨⟨t, e, p⟩, hbw⟩ : ∃ z, bwrite x.f x.h x.l = z := ⟨_, rfl⟩
  obtain ⟨ht, hp⟩ := bwrite_size hbw
  have HBW := Lib.hid hbw
  rw [hbw]
  clear hbw
  have q0 := hbx.c0
  have q1 := hbx.c1
  have q2 := hbx.c2
  unfold BatArg.v
  go_enter Tryz.func15, Tryz.ntmps15
  go_wp2_with fail
  refine (bodywrite_any _ x hb0 hf hh hcf hch hg0).mono ?_
  rintro r w1 ⟨v1, rfl, hv1, hb1⟩
  rw [HBW.out] at hv1 ⊢
  have bb := b0.trans (hb1.mono b0.size)
  unfold ErrOf at hv1
  simp only at hv1 ⊢
  by_cases he : e = 0
  · subst he
    obtain rfl := ferr_nil hv1 rfl
    have hsq := squeeze_right ht
    have hr := Lib.hid (frame_good (t := t) (p := p))
    have HSQ := Lib.hid hsq
    have HP := Lib.hid (hp rfl)
    clear hsq hv1 hp
    go_wp2_with fail
    refine (squeeze_any t _ (by omega)).mono ?_
    rintro r w2 ⟨v2, rfl, hv2, hb2⟩
    have b2 := bb.trans (hb2.mono bb.size)
    unfold ErrOf at hv2
    rw [HSQ.out] at hv2
    obtain rfl := ferr_nil hv2 rfl
    clear hv2
    have wS : IntKind.u64.wrap (t.size : Int) = (t.size : Int) := by rw [IntKind.wrap_u64]; omega
    have hvs := fr_size ht
    generalize hq : (squeezeOf t).1 = q at *
    have HQ := Lib.hid hq
    clear hq
    by_cases hlt : q.size < t.size
    · have d1 : decide ((q.size : Int) < (t.size : Int)) = true := by simp only [decide_eq_true_eq]; omega
      have d1' : decide (q.size < t.size) = true := by simpa using hlt
      have HT := Lib.hid (frText_less (by rw [HQ.out]; exact hlt))
      have k1 : ¬ 9223372036854775807 < ((⟨#[80, 84, 3]⟩ : ByteArray) ++ ⟨#[1]⟩).size + (⟨(vput t.size).toArray⟩ : ByteArray).size := by rw [ByteArray.size_append]; show ¬ _ < 3 + 1 + _; omega
      have k2 : ¬ 9223372036854775807 < (((⟨#[80, 84, 3]⟩ : ByteArray) ++ ⟨#[1]⟩) ++ ⟨(vput t.size).toArray⟩).size + q.size := by rw [ByteArray.size_append, ByteArray.size_append]; show ¬ _ < 3 + 1 + _ + _; omega
      have k3 : ((((⟨#[80, 84, 3]⟩ : ByteArray) ++ ⟨#[1]⟩) ++ ⟨(vput t.size).toArray⟩) ++ q).size ≤ 1000000 := by rw [ByteArray.size_append, ByteArray.size_append, ByteArray.size_append]; show 3 + 1 + _ + _ ≤ _; omega
      clear hlt
      go_wp2_with fail
      refine (vput_any t.size _ (by omega)).mono ?_
      rintro r w3 ⟨rfl, hb3⟩
      have b3 := b2.trans (hb3.mono b2.size)
      go_wp2_with fail
      refine (seal_any _ _ k3).mono ?_
      rintro r w4 ⟨rfl, hb4⟩
      go_wp2
      go_ret2
      rw [hr.out, HT.out, HQ.out, HP.out]
      exact ⟨_, rfl, .none, b3.trans (hb4.mono b3.size)⟩
    · have d1 : decide ((q.size : Int) < (t.size : Int)) = false := by simp only [decide_eq_false_iff_not]; omega
      have d1' : decide (q.size < t.size) = false := by simpa using hlt
      have HT := Lib.hid (frText_more (by rw [HQ.out]; exact hlt))
      have k1 : ¬ 9223372036854775807 < ((⟨#[80, 84, 3]⟩ : ByteArray) ++ ⟨#[0]⟩).size + (⟨(vput t.size).toArray⟩ : ByteArray).size := by rw [ByteArray.size_append]; show ¬ _ < 3 + 1 + _; omega
      have k2 : ¬ 9223372036854775807 < (((⟨#[80, 84, 3]⟩ : ByteArray) ++ ⟨#[0]⟩) ++ ⟨(vput t.size).toArray⟩).size + t.size := by rw [ByteArray.size_append, ByteArray.size_append]; show ¬ _ < 3 + 1 + _ + _; omega
      have k3 : ((((⟨#[80, 84, 3]⟩ : ByteArray) ++ ⟨#[0]⟩) ++ ⟨(vput t.size).toArray⟩) ++ t).size ≤ 1000000 := by rw [ByteArray.size_append, ByteArray.size_append, ByteArray.size_append]; show 3 + 1 + _ + _ ≤ _; omega
      clear hlt
      go_wp2_with fail
      refine (vput_any t.size _ (by omega)).mono ?_
      rintro r w3 ⟨rfl, hb3⟩
      have b3 := b2.trans (hb3.mono b2.size)
      go_wp2_with fail
      refine (seal_any _ _ k3).mono ?_
      rintro r w4 ⟨rfl, hb4⟩
      go_wp2
      go_ret2
      rw [hr.out, HT.out, HP.out]
      exact ⟨_, rfl, .none, b3.trans (hb4.mono b3.size)⟩
  · have hr := Lib.hid (frame_bad (t := t) (p := p) he)
    obtain ⟨a, u, rfl⟩ := ferr_some hv1 he
    clear he
    go_wp2
    go_ret2
    rw [hr.out]
    exact ⟨_, rfl, hv1, bb⟩
end Go.Proofs.YtkejlnjnoiidnaaGreatDoor
end

section
namespace Go.Proofs.YtkejlnjnoiidnaaGreatDoor
set_option linter.unusedSimpArgs false
open Go.RowKit As
theorem fst_is {f : Int × Int} (h : f.1 ≠ 0) : (f.1 == 0) = false := by simpa using h
set_option maxHeartbeats 4000000 in
set_option maxRecDepth 100000 in
theorem rbright_any (w : World) (x : BatArg) (hb : Bat w x) (hf : ∀ y ∈ x.f, entFits y) (hh : ∀ y ∈ x.h, entFits y) :
    Calls Tryz.prog 29 #[x.v] w fun e w' => e = .returned (faultV (bright x.f x.h x.l)) ∧ Below w.heap.size w w' := by
  have hbx := BxAt.new w x
  have b0 := below1 w (.cells #[.slice x.A x.n x.c, .slice x.A' x.n' x.c', .slice x.A'' x.n'' x.c''] 25)
  obtain ⟨A, n, c, A', n', c', A'', n'', c'', f, h, l⟩ := x
  obtain ⟨sf, sh, sl, nf, nh, nl⟩ := hb
  simp only at hbx b0 hf hh sf sh sl nf nh nl ⊢
  have ef : Ents w w.heap.size A n f := ⟨sf, hf⟩
  have eh : Ents w w.heap.size A' n' h := ⟨sh, hh⟩
  have hT0 := Two.new (w.alloc (.cells #[.slice A n c, .slice A' n' c', .slice A'' n'' c''] 25)) 0 0 29
  have bT := below1 (w.alloc (.cells #[.slice A n c, .slice A' n' c', .slice A'' n'' c''] 25)) (.cells #[.int .i64 0, .int .i64 0] 29)
  rw [World.size_alloc] at hT0
  replace hbx := hbx.below bT
  replace b0 := b0.trans (bT.mono b0.size)
  have ef0 := ef.grow b0
  have eh0 := eh.grow b0
  have sl0 := sl.grow b0
  have hll := slk_len wrCells 6 (by omega) (fun _ => rfl) sl
  clear sf sh hf hh sl ef eh
  unfold BatArg.v faultV
  simp only
  go_enter Tryz.func29, Tryz.ntmps29
  go_wp2_with fail
  generalize hW : (w.alloc (.cells #[.slice A n c, .slice A' n' c', .slice A'' n'' c''] 25)).alloc (.cells #[.int .i64 0, .int .i64 0] 29) = W at *
  refine (rvright_any _ n c A f ef0 nf).mono ?_
  rintro r w1 ⟨rfl, hb1⟩
  unfold faultV
  go_wp2_with fail
  have hk1 := below1 w1 (.cells #[.int .i64 (vright f).1, .int .i64 (vright f).2] 29)
  have T1 := Two.new w1 (vright f).1 (vright f).2 29
  refine (is_any (vright f) _).mono ?_
  rintro r w2 ⟨rfl, hb2⟩
  obtain ⟨g0, g1, _, _⟩ := T1.below hb2
  have hb11 := hb1.trans (hk1.mono hb1.size)
  have hb12 := hb11.trans (hb2.mono hb11.size)
  clear hk1 T1 hb2 hb1 hb11
  by_cases h1 : (vright f).1 = 0
  · have e1 : ((vright f).1 == 0) = true := by simpa using h1
    rw [e1]
    clear e1
    clear g0 g1
    have d1 := (hbx.below hb12).c1
    simp only at d1
    go_wp2_with fail
    refine (rvright_any _ n' c' A' h (eh0.grow hb12) nh).mono ?_
    rintro r w3 ⟨rfl, hb3⟩
    unfold faultV
    go_wp2_with fail
    have hk3 := below1 w3 (.cells #[.int .i64 (vright h).1, .int .i64 (vright h).2] 29)
    have T3 := Two.new w3 (vright h).1 (vright h).2 29
    refine (is_any (vright h) _).mono ?_
    rintro r w4 ⟨rfl, hb4⟩
    obtain ⟨g0, g1, _, _⟩ := T3.below hb4
    have hb13 := hb12.trans (hb3.mono hb12.size)
    have hb13' := hb13.trans (hk3.mono hb13.size)
    have hb14 := hb13'.trans (hb4.mono hb13'.size)
    clear hk3 T3 hb3 hb4 hb13 hb13'
    by_cases h2 : (vright h).1 = 0
    · have e1 : ((vright h).1 == 0) = true := by simpa using h2
      rw [e1]
      clear e1
      clear g0 g1 d1
      have d0 := (hbx.below hb14).c0
      have d1 := (hbx.below hb14).c1
      simp only at d0 d1
      go_wp2_with fail
      refine (rcovers_any _ n' c' n c A' A h f (eh0.grow hb14) (ef0.grow hb14) nh nf).mono ?_
      rintro r w5 ⟨rfl, hb5⟩
      have hb15 := hb14.trans (hb5.mono hb14.size)
      clear hb5
      cases hc : vcovers h f with
      | false =>
        have hr := Lib.hid (bright_c (l := l) h1 h2 hc)
        clear hc h1 h2
        go_wp2_with fail
        refine (bareF_any _ _).mono ?_
        rintro r w6 ⟨rfl, hbx⟩
        have hbw6 := hb15.trans (hbx.mono hb15.size)
        obtain ⟨c0, c1, f0, f1⟩ := hT0.below hbw6
        have S := set2 (.int .i64 13) (.int .i64 (-1)) c0 c1
        go_wp2
        exact bodyPost_ret (v := .agg #[.int .i64 13, .int .i64 (-1)]) (by simp [results, Tryz.results29, go_sem, S.1, S.2]) rfl ⟨by rw [hr.out], below_set2 _ _ (b0.trans (hbw6.mono b0.size)) (by omega)⟩
      | true =>
        have hll' : l.length = n'' := by omega
        have d2 := (hbx.below hb15).c2
        simp only at d2
        by_cases hl6 : 60 < n''
        · have hr := Lib.hid (bright_l (l := l) h1 h2 hc (by omega))
          have e5 : decide ((60 : Int) < (n'' : Int)) = true := by simp; omega
          have e6 : decide (60 < n'') = true := by simp; omega
          clear hc h1 h2
          go_wp2_with fail
          refine (bareF_any _ _).mono ?_
          rintro r w6 ⟨rfl, hbx⟩
          have hbw6 := hb15.trans (hbx.mono hb15.size)
          obtain ⟨c0, c1, f0, f1⟩ := hT0.below hbw6
          have S := set2 (.int .i64 4) (.int .i64 (-1)) c0 c1
          go_wp2
          exact bodyPost_ret (v := .agg #[.int .i64 4, .int .i64 (-1)]) (by simp [results, Tryz.results29, go_sem, S.1, S.2]) rfl ⟨by rw [hr.out], below_set2 _ _ (b0.trans (hbw6.mono b0.size)) (by omega)⟩
        · have hr := Lib.hid (bright_go (l := l) h1 h2 hc (by omega))
          have e5 : decide ((60 : Int) < (n'' : Int)) = false := by simp; omega
          have e6 : decide (60 < n'') = false := by simp; omega
          clear hc h1 h2
          have bl := below1 w5 (.cells #[.int .i64 0, .int .i64 0] 51)
          have TL := Two.new w5 0 0 51
          have d2 := (bl.cell (cell_lt d2)).trans d2
          go_wp2
          go_loopw [6, 7, 8, 43] (fun _ _ _ i wr => ∃ k : Nat, k ≤ n'' ∧ i = .int .i64 k ∧ Hid (BAt f h l k) ∧ Two wr w5.heap.size (lastId l k).1 (lastId l k).2 ∧ Below w5.heap.size w5 wr) (fun _ _ _ i _ => n'' - (intOf i).toNat)
          case atStart => exact ⟨0, by omega, rfl, Lib.hid BAt.zero, TL, bl⟩
          case round =>
            obtain ⟨k, hk, rfl, hat, hTL, hbel⟩ := hrel
            have hB := hbel.size
            have hbc := hb15.trans (hbel.mono hb15.size)
            by_cases hlt : k < n''
            · obtain ⟨b, o, ⟨a0, a1, a2, d, e, m⟩, rfl, hbB, hx, hcl⟩ := wr_at (sl0.grow hbc) hlt
              have c0 : wr.cell? ⟨b, o + k * 6, none⟩ = some (.int .i64 a0) := hcl 0 _ rfl
              have c1 := hcl 1 _ rfl
              have c2 := hcl 2 _ rfl
              have c3 := hcl 3 _ rfl
              have c4 := hcl 4 _ rfl
              have c5 := hcl 5 _ rfl
              have hX := Lib.hid hx
              clear hcl hx
              have kb := below1 wr (wrO a0 a1 a2 d e m)
              have ka := WrAt.new wr a0 a1 a2 d e m
              generalize hla : lastId l k = la at *
              obtain ⟨la, lb⟩ := la
              have hla := Lib.hid hla
              simp only at hTL
              by_cases hz : wright (a0, a1, a2, d, e, m) = 0
              · have hwr0 := Lib.hid hz
                clear hz
                go_wp2_with fail
                refine (rwright_any (a0, a1, a2, d, e, m) _).mono ?_
                rintro r w6 ⟨rfl, hb6⟩
                rw [hwr0.out]
                have hk6 := kb.trans (hb6.mono kb.size)
                have hbc6 := hbc.trans (hk6.mono hbc.size)
                obtain ⟨t0, t1, t2, t3⟩ := hTL.below hk6
                have q2 := (ka.below hb6).c0
                have q3 := (ka.below hb6).c1
                by_cases h0 : k = 0
                · have hno := Lib.hid (show ¬ (0 < k ∧ 0 ≤ idCmp (lastId l k) (wid (a0, a1, a2, d, e, m))) by omega)
                  have e8 : decide (0 < k) = false := by simp; omega
                  have e9 : decide ((0 : Int) < (k : Int)) = false := by simp; omega
                  clear h0
                  have T6 := hTL.below hk6
                  have g0 := (hbx.below hbc6).c0
                  have g1 := (hbx.below hbc6).c1
                  simp only at g0 g1
                  cases hin : idWithin (a0, a1) f h with
                  | true =>
                    have hnx := Lib.hid (BAt.succ hat.out hX.out hwr0.out hno.out hin)
                    have hls := Lib.hid (lastId_succ hX.out)
                    go_wp2_with fail
                    refine (rwithin_any a0 a1 n n' c c' A A' f h _ (ef0.grow hbc6) (eh0.grow hbc6) nf nh).mono ?_
                    rintro r w8 ⟨rfl, hb8⟩
                    rw [hin]
                    clear hin g0 g1
                    obtain ⟨t0, t1, t2, t3⟩ := T6.below hb8
                    have q2 := (hb8.cell (cell_lt q2)).trans q2
                    have q3 := (hb8.cell (cell_lt q3)).trans q3
                    have hk8 := hk6.trans (hb8.mono hk6.size)
                    have SL := set2 (.int .i64 a0) (.int .i64 a1) t0 t1
                    go_wp2
                    go_roundw
                    case rel => exact ⟨k + 1, by omega, by go_num, hnx, by rw [hls.out]; exact ⟨SL.1, SL.2, by simpa using t2, by simpa using t3⟩, below_set2 _ _ (hbel.trans (hk8.mono hB)) (Nat.le_refl _)⟩
                    case measure => simp [intOf]; omega
                  | false =>
                    have hres := Lib.hid (BAt.state hat.out hX.out hwr0.out hno.out hin)
                    go_wp2_with fail
                    refine (rwithin_any a0 a1 n n' c c' A A' f h _ (ef0.grow hbc6) (eh0.grow hbc6) nf nh).mono ?_
                    rintro r w8 ⟨rfl, hb8⟩
                    rw [hin]
                    clear hin g0 g1
                    have hbc8 := hbc6.trans (hb8.mono hbc6.size)
                    obtain ⟨c0, c1, f0, f1⟩ := hT0.below hbc8
                    have S := set2 (.int .i64 6) (.int .i64 (k : Int)) c0 c1
                    go_wp2
                    exact bodyPost_ret (v := .agg #[.int .i64 6, .int .i64 (k : Int)]) (by simp [results, Tryz.results29, go_sem, S.1, S.2]) rfl ⟨by rw [hr.out, hres.out], below_set2 _ _ (b0.trans (hbc8.mono b0.size)) (by omega)⟩
                · have e8 : decide (0 < k) = true := by simp; omega
                  have e9 : decide ((0 : Int) < (k : Int)) = true := by simp; omega
                  have hk0 : 0 < k := by omega
                  clear h0
                  go_wp2_with fail
                  refine (rcompare_any la lb a0 a1 _).mono ?_
                  rintro r w7 ⟨rfl, hb7⟩
                  have hk7 := hk6.trans (hb7.mono hk6.size)
                  have hbc7 := hbc.trans (hk7.mono hbc.size)
                  have q2 := (hb7.cell (cell_lt q2)).trans q2
                  have q3 := (hb7.cell (cell_lt q3)).trans q3
                  have T7 := hTL.below hk7
                  by_cases hcmp : 0 ≤ idCmp (la, lb) (a0, a1)
                  · have hres := Lib.hid (BAt.order hat.out hX.out hwr0.out hk0 (by rw [hla.out]; exact hcmp))
                    have e10 : decide (0 ≤ idCmp (la, lb) (a0, a1)) = true := by simpa using hcmp
                    obtain ⟨c0, c1, f0, f1⟩ := hT0.below hbc7
                    have S := set2 (.int .i64 10) (.int .i64 (k : Int)) c0 c1
                    go_wp2
                    exact bodyPost_ret (v := .agg #[.int .i64 10, .int .i64 (k : Int)]) (by simp [results, Tryz.results29, go_sem, S.1, S.2]) rfl ⟨by rw [hr.out, hres.out], below_set2 _ _ (b0.trans (hbc7.mono b0.size)) (by omega)⟩
                  · have hno := Lib.hid (show ¬ (0 < k ∧ 0 ≤ idCmp (lastId l k) (wid (a0, a1, a2, d, e, m))) by rw [hla.out]; exact fun hh => hcmp hh.2)
                    have e10 : decide (0 ≤ idCmp (la, lb) (a0, a1)) = false := by simpa using hcmp
                    have hc2 : idCmp (la, lb) (a0, a1) < 0 := by omega
                    have g0 := (hbx.below hbc7).c0
                    have g1 := (hbx.below hbc7).c1
                    simp only at g0 g1
                    cases hin : idWithin (a0, a1) f h with
                    | true =>
                      have hnx := Lib.hid (BAt.succ hat.out hX.out hwr0.out hno.out hin)
                      have hls := Lib.hid (lastId_succ hX.out)
                      go_wp2_with fail
                      refine (rwithin_any a0 a1 n n' c c' A A' f h _ (ef0.grow hbc7) (eh0.grow hbc7) nf nh).mono ?_
                      rintro r w8 ⟨rfl, hb8⟩
                      rw [hin]
                      clear hin g0 g1
                      obtain ⟨t0, t1, t2, t3⟩ := T7.below hb8
                      have q2 := (hb8.cell (cell_lt q2)).trans q2
                      have q3 := (hb8.cell (cell_lt q3)).trans q3
                      have hk8 := hk7.trans (hb8.mono hk7.size)
                      have SL := set2 (.int .i64 a0) (.int .i64 a1) t0 t1
                      go_wp2
                      go_roundw
                      case rel => exact ⟨k + 1, by omega, by go_num, hnx, by rw [hls.out]; exact ⟨SL.1, SL.2, by simpa using t2, by simpa using t3⟩, below_set2 _ _ (hbel.trans (hk8.mono hB)) (Nat.le_refl _)⟩
                      case measure => simp [intOf]; omega
                    | false =>
                      have hres := Lib.hid (BAt.state hat.out hX.out hwr0.out hno.out hin)
                      go_wp2_with fail
                      refine (rwithin_any a0 a1 n n' c c' A A' f h _ (ef0.grow hbc7) (eh0.grow hbc7) nf nh).mono ?_
                      rintro r w8 ⟨rfl, hb8⟩
                      rw [hin]
                      clear hin g0 g1
                      have hbc8 := hbc7.trans (hb8.mono hbc7.size)
                      obtain ⟨c0, c1, f0, f1⟩ := hT0.below hbc8
                      have S := set2 (.int .i64 6) (.int .i64 (k : Int)) c0 c1
                      go_wp2
                      exact bodyPost_ret (v := .agg #[.int .i64 6, .int .i64 (k : Int)]) (by simp [results, Tryz.results29, go_sem, S.1, S.2]) rfl ⟨by rw [hr.out, hres.out], below_set2 _ _ (b0.trans (hbc8.mono b0.size)) (by omega)⟩
              · have hres := Lib.hid (BAt.bad hat.out hX.out hz)
                generalize hwr : wright (a0, a1, a2, d, e, m) = q at *
                have hWR := Lib.hid hwr
                have e7 : (q != 0) = true := by simpa using hz
                clear hwr hz
                go_wp2_with fail
                refine (rwright_any (a0, a1, a2, d, e, m) _).mono ?_
                rintro r w6 ⟨rfl, hb6⟩
                rw [hWR.out]
                have hk6 := kb.trans (hb6.mono kb.size)
                have hbc6 := hbc.trans (hk6.mono hbc.size)
                obtain ⟨c0, c1, f0, f1⟩ := hT0.below hbc6
                have S := set2 (.int .i64 q) (.int .i64 (k : Int)) c0 c1
                go_wp2
                exact bodyPost_ret (v := .agg #[.int .i64 q, .int .i64 (k : Int)]) (by simp [results, Tryz.results29, go_sem, S.1, S.2]) rfl ⟨by rw [hr.out, hres.out], below_set2 _ _ (b0.trans (hbc6.mono b0.size)) (by omega)⟩
            · obtain rfl : k = n'' := by omega
              have hres := Lib.hid (BAt.all hat.out (by omega))
              go_wp2_with fail
              refine (good_any _).mono ?_
              rintro r w6 ⟨rfl, hb6⟩
              have hbc6 := hbc.trans (hb6.mono hbc.size)
              obtain ⟨c0, c1, f0, f1⟩ := hT0.below hbc6
              have S := set2 (.int .i64 0) (.int .i64 (-1)) c0 c1
              go_wp2
              exact bodyPost_ret (v := .agg #[.int .i64 0, .int .i64 (-1)]) (by simp [results, Tryz.results29, go_sem, S.1, S.2]) rfl ⟨by rw [hr.out, hres.out], below_set2 _ _ (b0.trans (hbc6.mono b0.size)) (by omega)⟩
    · have hr := Lib.hid (bright_h (l := l) h1 h2)
      have e1 : ((vright h).1 == 0) = false := by simpa using h2
      rw [e1]
      clear e1 h1 h2
      go_wp2_with fail
      refine (bareF_any _ _).mono ?_
      rintro r w5 ⟨rfl, hbx⟩
      have hbw5 := hb14.trans (hbx.mono hb14.size)
      obtain ⟨c0, c1, f0, f1⟩ := hT0.below hbw5
      have S := set2 (.int .i64 (vright h).1) (.int .i64 (-1)) c0 c1
      go_wp2
      exact bodyPost_ret (v := .agg #[.int .i64 (vright h).1, .int .i64 (-1)]) (by simp [results, Tryz.results29, go_sem, S.1, S.2]) rfl ⟨by rw [hr.out], below_set2 _ _ (b0.trans (hbw5.mono b0.size)) (by omega)⟩
  · have hr := Lib.hid (bright_f (h := h) (l := l) h1)
    have e1 : ((vright f).1 == 0) = false := by simpa using h1
    rw [e1]
    clear e1 h1
    go_wp2_with fail
    refine (bareF_any _ _).mono ?_
    rintro r w3 ⟨rfl, hbx⟩
    have hbw3 := hb12.trans (hbx.mono hb12.size)
    obtain ⟨c0, c1, f0, f1⟩ := hT0.below hbw3
    have S := set2 (.int .i64 (vright f).1) (.int .i64 (-1)) c0 c1
    go_wp2
    exact bodyPost_ret (v := .agg #[.int .i64 (vright f).1, .int .i64 (-1)]) (by simp [results, Tryz.results29, go_sem, S.1, S.2]) rfl ⟨by rw [hr.out], below_set2 _ _ (b0.trans (hbw3.mono b0.size)) (by omega)⟩
end Go.Proofs.YtkejlnjnoiidnaaGreatDoor
end
