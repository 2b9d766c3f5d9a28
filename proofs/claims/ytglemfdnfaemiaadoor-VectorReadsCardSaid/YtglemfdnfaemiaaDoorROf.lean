/- How far a replica is known: VectorOf of the reference. -/
import Derived.Test.YtglemfdnfaemiaaDoorEnts
namespace Go.Proofs.YtglemfdnfaemiaaDoor
open Go.RowKit
theorem rof_any (w : World) (n c : Nat) (A : Option Addr) (l : List Ent) (x : Int) (hl : Ents w w.heap.size A n l) (hn : n ≤ maxLen) :
    Calls Tryd.prog 27 #[.slice A n c, .int .i64 x] w fun e w' => e = .returned (.int .i64 (vof l x)) ∧ w = w' := by
  unfold maxLen at hn
  have hlen := Lib.hid hl.len
  go_enter Tryd.func27, Tryd.ntmps27
  go_wp2
  go_loop [5, 8] (fun _ i => ∃ k : Nat, k ≤ n ∧ i = .int .i64 k ∧ ∀ (j : Nat) (y : Ent), j < k → l[j]? = some y → y.1 ≠ x) (fun _ i => n - (intOf i).toNat)
  case atStart => exact ⟨0, by omega, rfl, fun j y hj => by omega⟩
  case round =>
    obtain ⟨k, hk, rfl, hall⟩ := hrel
    have Hall := Lib.hid hall
    clear hall
    by_cases hlt : k < n
    · obtain ⟨b, o, r, t, rfl, hb, hx, hf, c0, c1⟩ := hl.at_ hlt
      by_cases hr : r = x
      · subst hr
        have hv := Lib.hid (vof_hit l r k t Hall.out hx)
        go_wp2_with fail
        go_ret
        exact ⟨retI hv.out.symm, rfl⟩
      · have hr' : (r == x) = false := by simp [hr]
        have hx' := Lib.hid hx
        clear hx
        go_wp2_with fail
        go_round
        case rel => exact ⟨k + 1, by omega, by go_num, fun j y hj hy => ent_succ Hall.out hx'.out hr j y hj hy⟩
        case measure => simp [intOf]; omega
    · obtain rfl : k = n := by omega
      go_wp2_with fail
      go_ret
      exact ⟨retI (vof_miss l x fun j y hy => Hall.out j y (ent_lt hlen.out hy) hy).symm, rfl⟩
end Go.Proofs.YtglemfdnfaemiaaDoor
