/- crc.Seal, crc.Open and Seal, Open of the reference say what sealOf and openOf say. -/
import Derived.Test.YtglemfdnfaemiaaDoorSealLaw
import Derived.Test.YtglemfdnfaemiaaDoorCrcWalks
import Derived.Test.YtglemfdnfaemiaaDoorErr
import Derived.Test.YtglemfdnfaemiaaDoorVaryPut
import Derived.Test.YtglemfdnfaemiaaDoorSpanWalks
import Derived.Test.YtglemfdnfaemiaaDoorEqual
namespace Go.Proofs.YtglemfdnfaemiaaDoor
open Go.RowKit As
/-- The string of a slice that was built of bytes. -/
theorem string_new {P : Program} (w : World) (src e dst t : TypeId) (vs : Array Value) (l : List UInt8) (n : Nat) (hv : vs = (l.map byteV).toArray) (hn : n = l.length) (hs : P.underlying src = some (.slice e)) (he : P.underlying e = some (.int .u8)) (hd : P.underlying dst = some .string) :
    (convert src dst (.slice (some ⟨w.heap.size, 0, none⟩) n n)).run P (w.alloc (.cells vs t)) = .ok (.string (strOf l)) (w.alloc (.cells vs t)) := by
  subst hv hn
  refine string_of _ src e dst _ _ l hs he hd fun i hi => ⟨?_, ?_⟩
  · rw [World.cell?_alloc_new]
    simp [List.getElem?_map, List.getElem?_eq_getElem hi]
  · simp only [World.alloc, World.frozen?, Array.getElem?_push_size]
    simp
theorem u8_low (n : Nat) : IntKind.u8.wrap (n : Int) = ((UInt8.ofNat (n % 256)).toNat : Int) := by
  rw [IntKind.wrap_u8']
  have : (UInt8.ofNat (n % 256)).toNat = n % 256 := by simp
  rw [this]; omega
set_option maxRecDepth 100000 in
theorem seal_any (s : ByteArray) (w : World) (hs : s.size ≤ 1000000) :
    Calls Tryd.prog 33 #[.string s] w fun e w' => e = .returned (.string (sealOf s)) ∧ Below w.heap.size w w' := by
  obtain ⟨n, hn⟩ : ∃ n, n = crcOf s := ⟨_, rfl⟩
  have hlt := crcOf_lt s
  rw [← hn] at hlt
  have HN := Lib.hid hn
  clear hn
  go_enter Tryd.func33, Tryd.ntmps33
  go_wp2_with fail
  refine (Crc.sum_any s w (by unfold maxLen; omega)).mono ?_
  rintro e w' ⟨rfl, rfl⟩
  rw [show Crc.more 0 s.data.toList = n from HN.out.symm]
  go_wp2_with fail
  rw [string_new w 144 5 9 5 _ (lowB 4 n) 4 (by rw [lowB_four]; simp [byteV]; omega) (lowB_len 4 n).symm Tryd.underlying144 Tryd.underlying5 Tryd.underlying9]
  have h4 : (strOf (lowB 4 n)).size = 4 := four_size n
  generalize hF : strOf (lowB 4 n) = F at *
  have HF := Lib.hid hF
  clear hF
  have hcat : s.size + F.size ≤ 9223372036854775807 := by omega
  go_wp2_with fail
  go_ret
  exact ⟨by unfold sealOf four; rw [← HN.out, HF.out]; rfl, below1 _ _⟩
set_option maxRecDepth 100000 in
theorem rseal_any (s : ByteArray) (w : World) (hs : s.size ≤ 1000000) :
    Calls Tryd.prog 34 #[.string s] w fun e w' => e = .returned (.string (sealOf s)) ∧ Below w.heap.size w w' := by
  obtain ⟨n, hn⟩ : ∃ n, n = crcOf s := ⟨_, rfl⟩
  have hlt := crcOf_lt s
  rw [← hn] at hlt
  have HN := Lib.hid hn
  clear hn
  have h0 := Lib.hid (strOf_nil s)
  go_enter Tryd.func34, Tryd.ntmps34
  go_wp2_with fail
  refine (Crc.rsum_any s w (by omega)).mono ?_
  rintro e w' ⟨rfl, rfl⟩
  rw [show Crc.more 0 s.data.toList = n from HN.out.symm]
  go_wp2
  go_loopw [0, 3, 6] (fun a m i wr => ∃ k : Nat, k ≤ 4 ∧ i = .int .i64 k ∧ m = .int .u32 ((n / 256 ^ k : Nat) : Int) ∧ a = .string (s ++ strOf (lowB k n)) ∧ Below w.heap.size w wr) (fun _ _ i _ => 4 - (intOf i).toNat)
  case atStart => exact ⟨0, by omega, rfl, by simp, by rw [show lowB 0 n = [] from rfl, h0.out], Below.refl _ _⟩
  case round =>
    obtain ⟨k, hk, rfl, rfl, rfl, hbel⟩ := hrel
    have hB := hbel.size
    by_cases hlt : k < 4
    · have hsn := Lib.hid (lowB_snoc k n)
      have hl := lowB_len k n
      obtain ⟨m, hm⟩ : ∃ m, m = n / 256 ^ k := ⟨_, rfl⟩
      have hmn : m ≤ n := by rw [hm]; exact Nat.div_le_self _ _
      rw [← hm]
      have hnx := Lib.hid (show n / 256 ^ (k + 1) = m / 256 by rw [hm, Nat.div_div_eq_div_mul, Nat.pow_succ])
      have HM := Lib.hid hm
      clear hm
      have hsz : (s ++ strOf (lowB k n)).size = s.size + k := by rw [ByteArray.size_append, strOf_len (lowB k n), hl]
      obtain ⟨T, hT⟩ : ∃ T, T = s ++ strOf (lowB k n) := ⟨_, rfl⟩
      rw [← hT] at hsz ⊢
      have HT := Lib.hid hT
      clear hT
      go_wp2_with fail
      rw [string_new wr 144 5 9 5 _ [UInt8.ofNat (m % 256)] 1 (by simp [byteV]) rfl Tryd.underlying144 Tryd.underlying5 Tryd.underlying9]
      have h1 : (strOf [UInt8.ofNat (m % 256)]).size = 1 := rfl
      generalize hF : strOf [UInt8.ofNat (m % 256)] = F at *
      have HF := Lib.hid hF
      clear hF
      have hcat : T.size + F.size ≤ 9223372036854775807 := by omega
      go_wp2_with fail
      go_roundw
      case rel => exact ⟨k + 1, by omega, by go_num, valI (by rw [hnx.out]; omega), by rw [HT.out, hsn.out, strOf_add, ← str_assoc, ← HF.out, HM.out], hbel.alloc hB _⟩
      case measure => simp [intOf]; omega
    · obtain rfl : k = 4 := by omega
      go_wp2_with fail
      go_ret
      exact ⟨by unfold sealOf; rw [← HN.out]; rfl, hbel⟩
set_option maxRecDepth 100000 in
theorem open_any (s : ByteArray) (w : World) (hs : s.size ≤ 1000000) :
    Calls Tryd.prog 32 #[.string s] w fun e w' => e = .returned (.tuple #[.string (openOf s).1, errV (openOf s).2]) ∧ Below w.heap.size w w' := by
  by_cases h4 : s.size < 4
  · have H := Lib.hid (open_short h4)
    have hd : decide (s.size < 4) = true := by simpa using h4
    go_enter Tryd.func32, Tryd.ntmps32
    go_wp2
    go_ret2
    exact ⟨by rw [H.out]; rfl, Below.refl _ _⟩
  · have hd : decide (s.size < 4) = false := by simpa using h4
    have hsz : (s.extract 0 (s.size - 4)).size = s.size - 4 := by rw [ByteArray.size_extract]; omega
    have he := Lib.hid (show (s.extract 0 (s.size - 4)).size ≤ 1000000 by omega)
    clear hsz
    by_cases hg : sealOf (s.extract 0 (s.size - 4)) = s
    · have H := Lib.hid (open_good h4 hg)
      have Hg := Lib.hid hg
      clear hg
      go_enter Tryd.func32, Tryd.ntmps32
      go_wp2_with fail
      refine (seal_any _ w he.out).mono ?_
      rintro e w' ⟨rfl, hb⟩
      rw [Hg.out]
      go_wp2
      go_ret2
      exact ⟨by rw [H.out]; rfl, hb⟩
    · have H := Lib.hid (open_bad h4 hg)
      obtain ⟨Z, hZ⟩ : ∃ Z, Z = sealOf (s.extract 0 (s.size - 4)) := ⟨_, rfl⟩
      rw [← hZ] at hg
      have HZ := Lib.hid hZ
      clear hZ
      have hne := toList_ne hg
      clear hg
      go_enter Tryd.func32, Tryd.ntmps32
      go_wp2_with fail
      refine (seal_any _ w he.out).mono ?_
      rintro e w' ⟨rfl, hb⟩
      rw [← HZ.out]
      go_wp2
      go_ret2
      exact ⟨by rw [H.out]; rfl, hb⟩
set_option maxRecDepth 100000 in
theorem ropen_any (s : ByteArray) (w : World) (hs : s.size ≤ 1000000) :
    Calls Tryd.prog 31 #[.string s] w fun e w' => e = .returned (.tuple #[.string (openOf s).1, .int .i64 (openOf s).2]) ∧ Below w.heap.size w w' := by
  by_cases h4 : s.size < 4
  · have H := Lib.hid (open_short h4)
    have hd : decide (s.size < 4) = true := by simpa using h4
    go_enter Tryd.func31, Tryd.ntmps31
    go_wp2
    go_ret2
    exact ⟨by rw [H.out]; rfl, Below.refl _ _⟩
  · have hd : decide (s.size < 4) = false := by simpa using h4
    have hsz : (s.extract 0 (s.size - 4)).size = s.size - 4 := by rw [ByteArray.size_extract]; omega
    have he := Lib.hid (show (s.extract 0 (s.size - 4)).size ≤ 1000000 by omega)
    clear hsz
    by_cases hg : sealOf (s.extract 0 (s.size - 4)) = s
    · have H := Lib.hid (open_good h4 hg)
      have Hg := Lib.hid hg
      clear hg
      go_enter Tryd.func31, Tryd.ntmps31
      go_wp2_with fail
      refine (rseal_any _ w he.out).mono ?_
      rintro e w' ⟨rfl, hb⟩
      rw [Hg.out]
      go_wp2
      go_ret2
      exact ⟨by rw [H.out]; rfl, hb⟩
    · have H := Lib.hid (open_bad h4 hg)
      obtain ⟨Z, hZ⟩ : ∃ Z, Z = sealOf (s.extract 0 (s.size - 4)) := ⟨_, rfl⟩
      rw [← hZ] at hg
      have HZ := Lib.hid hZ
      clear hZ
      have hne := toList_ne hg
      clear hg
      go_enter Tryd.func31, Tryd.ntmps31
      go_wp2_with fail
      refine (rseal_any _ w he.out).mono ?_
      rintro e w' ⟨rfl, hb⟩
      rw [← HZ.out]
      go_wp2
      go_ret2
      exact ⟨by rw [H.out]; rfl, hb⟩
end Go.Proofs.YtglemfdnfaemiaaDoor
