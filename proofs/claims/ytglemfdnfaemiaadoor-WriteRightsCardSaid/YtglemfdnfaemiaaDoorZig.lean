/- What Zig and Zag, of package vary and of the reference, compute: contracts for other laws (from XZigs). -/
import Derived.Test.YtglemfdnfaemiaaDoorWriteLaw
import Derived.WalkKit
import Derived.WalkLawsBesides
import Derived.WalkSpells
import Derived.ProofKit
import Derived.OpenShut
import Derived.Laws.DeepNot64
namespace Go.Proofs.YtglemfdnfaemiaaDoor.Zg
open Go.ChangeShapes Go.WideShapes Go.ChangeAt Go.RowKit
set_option linter.unusedVariables false

/- Plain facts on bits. -/
theorem xor_zero_u64 (a : Int) : bits .xor .u64 a 0 = a % 18446744073709551616 := by
  show IntKind.u64.wrap ((BitVec.ofInt 64 a ^^^ BitVec.ofInt 64 0).toNat : Int) = _
  have h : BitVec.ofInt 64 0 = 0#64 := by decide
  rw [h, BitVec.xor_zero, IntKind.wrap_u64, BitVec.toNat_ofInt]
  omega
theorem xor_ones_u64 (a : Nat) (ha : a < 18446744073709551616) : bits .xor .u64 (a : Int) 18446744073709551615 = 18446744073709551615 - (a : Int) := by
  show IntKind.u64.wrap ((BitVec.ofInt 64 (a : Int) ^^^ BitVec.ofInt 64 18446744073709551615).toNat : Int) = _
  have h1 : BitVec.ofInt 64 18446744073709551615 = BitVec.allOnes 64 := by decide
  rw [h1, BitVec.xor_allOnes, BitVec.toNat_not, ofInt_u64 a ha, IntKind.wrap_u64]
  omega
theorem xor_zero_i64 (a : Int) (h0 : 0 ≤ a) (h1 : a < 9223372036854775808) : bits .xor .i64 a 0 = a := by
  show IntKind.i64.wrap ((BitVec.ofInt 64 a ^^^ BitVec.ofInt 64 0).toNat : Int) = _
  have h : BitVec.ofInt 64 0 = 0#64 := by decide
  rw [h, BitVec.xor_zero, BitVec.toNat_ofInt]
  simp [IntKind.wrap, IntKind.bits, IntKind.signed]
  omega
theorem xor_ones_i64 (a : Int) (h0 : 0 ≤ a) (h1 : a < 9223372036854775808) : bits .xor .i64 a (-1) = -1 - a := by
  obtain ⟨m, rfl⟩ := Int.eq_ofNat_of_zero_le h0
  have h := i64_not m (by omega)
  have c : bits .xor .i64 (m : Int) (-1) = bits .xor .i64 (-1) (m : Int) := by
    show IntKind.i64.wrap ((BitVec.ofInt 64 (m : Int) ^^^ BitVec.ofInt 64 (-1)).toNat : Int) = IntKind.i64.wrap ((BitVec.ofInt 64 (-1) ^^^ BitVec.ofInt 64 (m : Int)).toNat : Int)
    rw [BitVec.xor_comm]
  rw [c, h]
theorem and_one_u64' (n : Int) (h0 : 0 ≤ n) (h1 : n ≤ 18446744073709551615) : bits .and .u64 n 1 = n % 2 := by
  have h := u64_and n 1 h0 (by omega) (by omega) (by omega)
  rw [h]
  have e : (1 : Int).toNat = 1 := rfl
  rw [e, nat_mask1]
  omega

theorem zig_neg (n : Int) (h0 : -9223372036854775808 ≤ n) (h1 : n < 0) :
    bits BinOp.xor IntKind.u64 (IntKind.u64.wrap (IntKind.u64.wrap n * 2)) (IntKind.u64.wrap (n / 9223372036854775808)) = 2 * -(n + 1) + 1 := by
  have e1 : n / 9223372036854775808 = -1 := by omega
  rw [e1]
  simp only [IntKind.wrap_u64]
  have e2 : (-1 : Int) % 18446744073709551616 = 18446744073709551615 := by decide
  rw [e2]
  have e3 : n % 18446744073709551616 * 2 % 18446744073709551616 = ((2 * n + 18446744073709551616).toNat : Int) := by omega
  rw [e3, xor_ones_u64 _ (by omega)]
  omega
theorem zig_pos (n : Int) (h0 : 0 ≤ n) (h1 : n ≤ 9223372036854775807) :
    bits BinOp.xor IntKind.u64 (IntKind.u64.wrap (IntKind.u64.wrap n * 2)) (IntKind.u64.wrap (n / 9223372036854775808)) = 2 * n := by
  have e1 : n / 9223372036854775808 = 0 := by omega
  rw [e1]
  simp only [IntKind.wrap_u64]
  have e2 : (0 : Int) % 18446744073709551616 = 0 := by decide
  rw [e2, xor_zero_u64]
  omega
theorem zag_even (n : Int) (h0 : 0 ≤ n) (h1 : n ≤ 18446744073709551615) (h2 : n % 2 = 0) :
    bits BinOp.xor IntKind.i64 (n / 2) (wrap64 (-wrap64 (bits BinOp.and IntKind.u64 n 1))) = n / 2 := by
  rw [and_one_u64' n h0 h1, h2]
  have e : wrap64 (-wrap64 0) = 0 := by simp [wrap64]
  rw [e, xor_zero_i64 _ (by omega) (by omega)]
theorem zag_odd (n : Int) (h0 : 0 ≤ n) (h1 : n ≤ 18446744073709551615) (h2 : n % 2 = 1) :
    bits BinOp.xor IntKind.i64 (n / 2) (wrap64 (-wrap64 (bits BinOp.and IntKind.u64 n 1))) = -(n / 2) - 1 := by
  rw [and_one_u64' n h0 h1, h2]
  have e : wrap64 (-wrap64 1) = -1 := by simp [wrap64]
  rw [e, xor_ones_i64 _ (by omega) (by omega)]
  omega

/- What each of the two pairs computes. -/
def zig (n : Int) : Int := if n < 0 then 2 * -(n + 1) + 1 else 2 * n
def zag (n : Int) : Int := if n % 2 = 1 then -(n / 2) - 1 else n / 2
theorem retI {k : IntKind} {a b : Int} (h : a = b) : Ending.returned (.int k a) = .returned (.int k b) := by rw [h]

theorem zig_any (n : Int) (w : World) (h0 : -9223372036854775808 ≤ n) (h1 : n ≤ 9223372036854775807) :
    Calls Tryd.prog 113 #[.int .i64 n] w fun e w' => e = .returned (.int .u64 (zig n)) ∧ w = w' := by
  go_enter Tryd.func113, Tryd.ntmps113
  go_wp2
  go_ret
  refine ⟨retI ?_, rfl⟩
  unfold zig
  split
  · exact zig_neg n h0 (by assumption)
  · exact zig_pos n (by omega) h1
theorem zag_any (n : Int) (w : World) (h0 : 0 ≤ n) (h1 : n ≤ 18446744073709551615) :
    Calls Tryd.prog 116 #[.int .u64 n] w fun e w' => e = .returned (.int .i64 (zag n)) ∧ w = w' := by
  go_enter Tryd.func116, Tryd.ntmps116
  go_wp2
  go_ret
  refine ⟨retI ?_, rfl⟩
  unfold zag
  split
  · exact zag_odd n h0 h1 (by assumption)
  · exact zag_even n h0 h1 (by omega)
theorem rzig_any (n : Int) (w : World) (h0 : -9223372036854775808 ≤ n) (h1 : n ≤ 9223372036854775807) :
    Calls Tryd.prog 112 #[.int .i64 n] w fun e w' => e = .returned (.int .u64 (zig n)) ∧ w = w' := by
  go_enter Tryd.func112, Tryd.ntmps112
  go_wp2
  · go_ret
    exact ⟨retI (by unfold zig; rw [if_pos (by assumption)]), rfl⟩
  · go_ret
    exact ⟨retI (by unfold zig; rw [if_neg (by omega)]), rfl⟩
theorem rzag_any (n : Int) (w : World) (h0 : 0 ≤ n) (h1 : n ≤ 18446744073709551615) :
    Calls Tryd.prog 115 #[.int .u64 n] w fun e w' => e = .returned (.int .i64 (zag n)) ∧ w = w' := by
  go_enter Tryd.func115, Tryd.ntmps115
  go_wp2
  · go_ret
    have h : (n % 2 == 1) = true := by assumption
    exact ⟨retI (by unfold zag; rw [if_pos (by simpa using h)]), rfl⟩
  · go_ret
    have h : (n % 2 == 1) = false := by assumption
    exact ⟨retI (by unfold zag; rw [if_neg (by simpa using h)]), rfl⟩

theorem zag_is (n : Nat) : zag (n : Int) = zagN n := by
  unfold zag zagN
  split <;> split <;> omega
theorem zig_is (n : Int) (h0 : -9223372036854775808 ≤ n) : zig n = (zigN n : Int) := by
  unfold zig zigN
  split <;> omega
end Go.Proofs.YtglemfdnfaemiaaDoor.Zg
