/- vary.Put makes what vput says. -/
import Derived.Test.YtnaclpfcldoebaaDoorVaryLaw
import Derived.Test.YtnaclpfcldoebaaDoorErr
import Derived.Test.YtnaclpfcldoebaaDoorBytesOwn
import Derived.WalkKit
import Derived.WalkLawsBesides
import Derived.WalkSpells
import Derived.Outline
import Derived.Lib.Hide
import Derived.Laws.BitsAllLaws
namespace Go.Proofs.YtnaclpfcldoebaaDoor
open Go.RowKit
theorem byteInfo : (Tryd.prog.info? 5).map (fun i => (i.zero, i.size, i.bytes)) = some (some (.int .u8 0), 1, 1) := by kernel_rfl
theorem cells_new1 (w : World) (v : Value) (t : TypeId) : ∀ j u, ([v] : List Value)[j]? = some u → (w.alloc (.cells #[v] t)).cell? ((⟨w.heap.size, 0, none⟩ : Addr).add j) = some u := by
  intro j u hu
  have hadd : (⟨w.heap.size, 0, none⟩ : Addr).add j = ⟨w.heap.size, j, none⟩ := by unfold Addr.add; split <;> simp_all
  rw [hadd, World.cell?_alloc_new]
  simpa using hu
/-- The lowest seven bits, and one more. -/
theorem low7 (n : Nat) : bits BinOp.or IntKind.u8 (IntKind.u8.wrap (n : Int)) 128 = ((UInt8.ofNat (n % 128 + 128)).toNat : Int) := by
  rw [IntKind.wrap_u8']
  have e1 : (n : Int) % 256 = ((n % 256 : Nat) : Int) := by omega
  rw [e1]
  have e := u8_or_nat (n % 256) 128 (by omega) (by omega)
  have e2 : ((128 : Nat) : Int) = 128 := rfl
  rw [e2] at e
  rw [e]
  have e3 : (UInt8.ofNat (n % 128 + 128)).toNat = n % 128 + 128 := by simp; omega
  rw [e3]
  have e4 : n % 256 ||| 128 = n % 128 + 128 := by
    have hs : n % 256 = n % 128 + 128 * (n / 128 % 2) := by omega
    rcases Nat.mod_two_eq_zero_or_one (n / 128) with h0 | h0
    · rw [h0] at hs
      rw [hs, Nat.mul_zero, Nat.add_zero, Nat.or_comm, nat_join 7 128 (n % 128) (by decide) (by omega), Nat.add_comm]
    · rw [h0] at hs
      rw [hs, Nat.mul_one, Nat.add_comm, ← nat_join 7 128 (n % 128) (by decide) (by omega), Nat.or_assoc, Nat.or_comm (n % 128) 128, ← Nat.or_assoc, Nat.or_self, nat_join 7 128 (n % 128) (by decide) (by omega)]
  rw [e4]
theorem low8 (n : Nat) (h : n < 128) : IntKind.u8.wrap (n : Int) = ((UInt8.ofNat n).toNat : Int) := by
  rw [IntKind.wrap_u8']
  have : (UInt8.ofNat n).toNat = n := by simp; omega
  rw [this]; omega
theorem shr7 (n : Nat) : (n : Int) / 128 = ((n / 128 : Nat) : Int) := by omega
theorem own_snoc {w : World} {base : Nat} {E : TypeId} {v : Value} {l : List UInt8} {b : UInt8} (h : w.ownsRow base E 1 v (l.length + 1) (bytesV l ++ [byteV b])) : w.ownsRow base E 1 v (l ++ [b]).length (bytesV (l ++ [b])) := by
  simpa [bytesV] using h
theorem own_snoc' {w : World} {base : Nat} {E : TypeId} {v : Value} {l : List UInt8} {b : UInt8} (h : w.ownsRow base E 1 v (l.length + 1) (bytesV l ++ [byteV b])) : w.ownsRow base E 1 v (l.length + 1) (bytesV (l ++ [b])) := by
  simpa [bytesV] using h
theorem vput_next {n m : Nat} {l : List UInt8} (h : vput n = l ++ vput m) (hm : ¬ m < 128) : vput n = (l ++ [UInt8.ofNat (m % 128 + 128)]) ++ vput (m / 128) := by rw [h, vput_big hm]; simp
set_option maxHeartbeats 1000000 in
set_option maxRecDepth 100000 in
theorem vput_any (n : Nat) (w : World) (hn : n < 18446744073709551616) :
    Calls Tryd.prog 53 #[.int .u64 (n : Int)] w fun e w' => e = .returned (.string ⟨(vput n).toArray⟩) ∧ Below w.heap.size w w' := by
  obtain ⟨i0, hi, hz0, hz1, hz2⟩ := info_parts byteInfo
  have hlen := vput_len10 hn
  go_enter Tryd.func53, Tryd.ntmps53
  go_wp2
  go_loopw [0, 3] (fun m v wr => ∃ (k : Nat) (l : List UInt8), vput n = l ++ vput k ∧ k < 18446744073709551616 ∧ m = .int .u64 (k : Int) ∧ wr.ownsRow w.heap.size 5 1 v l.length (bytesV l) ∧ Below w.heap.size w wr) (fun m _ _ => (intOf m).toNat)
  case atStart => exact ⟨n, [], rfl, hn, rfl, World.ownsRow_nil _ _ _ _, Below.refl _ _⟩
  case round =>
    obtain ⟨k, l, hv, hk, rfl, hT, hbel⟩ := hrel
    have hB := hbel.size
    have hl10 : l.length ≤ 10 := by rw [hv] at hlen; simp at hlen; omega
    have HV := Lib.hid hv
    clear hv
    by_cases hlt : k < 128
    · have hd : decide (128 ≤ (k : Int)) = false := by simp; omega
      have hend := Lib.hid (show vput n = l ++ [UInt8.ofNat k] by rw [HV.out, vput_small hlt])
      go_wp2_with (first
        | (at_builtin; refine wpList_append_own _ rfl (.tmp 14) (.tmp 17) 116 rfl w.heap.size 5 i0 (.int .u8 0) 1 1 Tryd.underlying116 hi hz0 hz1 hz2 rfl (by decide) u3 l.length (bytesV l) rfl (hT.alloc _) ⟨wr.heap.size, 0, none⟩ 1 1 [Value.int .u8 (k : Int)] rfl rfl (cells_new1 _ _ _) (by intro u hu; simp at hu; subst hu; rfl) (by unfold maxLen; omega) (by omega) (by simp; omega) ?_; intro v1 w1 hT1 hg1 _; have hb1 := grown_own (hbel.alloc hB _) hg1 (by simp; omega) (hT.alloc _)))
      rw [byteV_of (b := UInt8.ofNat k) (by simp; omega)] at hT1
      obtain ⟨A1, c1, rfl⟩ := own_form hT1
      have hs1 := string_own (P := Tryd.prog) 116 5 9 Tryd.underlying116 Tryd.underlying5 Tryd.underlying9 (own_snoc' hT1) (by simp) (by omega)
      rw [hs1]
      go_wp2
      go_ret
      exact ⟨by rw [hend.out]; rfl, hb1⟩
    · have hd : decide (128 ≤ (k : Int)) = true := by simp; omega
      have hnext := Lib.hid (vput_next HV.out hlt)
      have hlow := low7 k
      rw [IntKind.wrap_u8'] at hlow
      have hl9 : l.length ≤ 9 := by
        have h1 := hnext.out
        have h2 := vput_pos (k / 128)
        rw [h1] at hlen
        simp at hlen
        omega
      go_wp2_with (first
        | (at_builtin; refine wpList_append_own _ rfl (.tmp 6) (.tmp 10) 116 rfl w.heap.size 5 i0 (.int .u8 0) 1 1 Tryd.underlying116 hi hz0 hz1 hz2 rfl (by decide) u3 l.length (bytesV l) rfl (hT.alloc _) ⟨wr.heap.size, 0, none⟩ 1 1 [byteV (UInt8.ofNat (k % 128 + 128))] rfl rfl (cells_new1 _ _ _) (by intro u hu; simp at hu; subst hu; rfl) (by unfold maxLen; omega) (by omega) (by simp; omega) ?_; intro v1 w1 hT1 hg1 _; have hb1 := grown_own (hbel.alloc hB _) hg1 (by simp; omega) (hT.alloc _); have hT2 := own_snoc hT1))
      go_roundw
      case rel => exact ⟨k / 128, _, hnext.out, by omega, valI (shr7 k), hT2, hb1⟩
      case measure => simp [intOf]; omega
end Go.Proofs.YtnaclpfcldoebaaDoor
