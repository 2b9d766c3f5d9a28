/- api.Tell, plain.Place and the laws' own two questions, by contracts on what an error is. -/
import Derived.Test.YthodlccjnbadhaaDoorAs
import Derived.Test.YthodlccjnbadhaaDoorMem
namespace Go.Proofs.YthodlccjnbadhaaDoor.As
open Go.RowKit Go.Extern.Stop Go.Stop Go.Extern
theorem below1 (w : World) (o : Obj) : Below w.heap.size w (w.alloc o) := (Below.refl _ _).alloc (Nat.le_refl _) o
/-- Tell's three answers. -/
theorem tell_nil (w : World) : Calls Tryd.prog 25 #[.nilIface] w fun e w' => e = .returned (.int .i64 0) ∧ w = w' := by
  go_enter Tryd.func25, Tryd.ntmps25
  go_wp2
  go_ret
  exact ⟨rfl, rfl⟩
theorem tell_errno (e : Int) (w : World) (hg : Handle w) : Calls Tryd.prog 25 #[.iface 29 (.int .i64 e)] w fun r w' => r = .returned (.int .i64 e) ∧ Below w.heap.size w w' := by
  go_enter Tryd.func25, Tryd.ntmps25
  go_wp2_with fail
  refine (as_errno e _ _ _ (hg.below ((Below.refl _ _).alloc (Nat.le_refl _) _)) (World.cell?_alloc_at _ _ _ _ rfl) (by simp)).mono ?_
  rintro r w' ⟨rfl, w1, rfl, hb⟩
  have hz := hb.size
  have hc : w1.cell? ⟨w.heap.size, 0, none⟩ = some (.int .i64 0) := (hb.cell (p := ⟨w.heap.size, 0, none⟩) (by simp)).trans (by rw [World.cell?_alloc_at _ _ _ _ rfl]; rfl)
  have hc2 : (w1.setCell ⟨w.heap.size, 0, none⟩ (.int .i64 e)).cell? ⟨w.heap.size, 0, none⟩ = some (.int .i64 e) := World.cell?_setCell_same _ _ _ hc
  simp at hz
  go_wp2_with fail
  go_ret
  exact ⟨rfl, ((below1 _ _).trans (hb.mono (by simp))).setCell (by simp) _⟩
theorem tell_at (e : Int) (a : Addr) (w : World) (hg : Handle w) (ha : w.cell? a = some (.int .i64 e)) : Calls Tryd.prog 25 #[.iface 67 (.pointer (some a))] w fun r w' => r = .returned (.int .i64 e) ∧ Below w.heap.size w w' := by
  go_enter Tryd.func25, Tryd.ntmps25
  go_wp2_with fail
  refine (as_at e a _ _ _ (hg.below ((Below.refl _ _).alloc (Nat.le_refl _) _)) (by rw [World.cell?_alloc_lt _ _ a (cell_lt ha)]; exact ha) (World.cell?_alloc_at _ _ _ _ rfl) (by simp)).mono ?_
  rintro r w' ⟨rfl, w1, rfl, hb⟩
  have hz := hb.size
  have hc : w1.cell? ⟨w.heap.size, 0, none⟩ = some (.int .i64 0) := (hb.cell (p := ⟨w.heap.size, 0, none⟩) (by simp)).trans (by rw [World.cell?_alloc_at _ _ _ _ rfl]; rfl)
  have hc2 : (w1.setCell ⟨w.heap.size, 0, none⟩ (.int .i64 e)).cell? ⟨w.heap.size, 0, none⟩ = some (.int .i64 e) := World.cell?_setCell_same _ _ _ hc
  simp at hz
  go_wp2_with fail
  go_ret
  exact ⟨rfl, ((below1 _ _).trans (hb.mono (by simp))).setCell (by simp) _⟩
end Go.Proofs.YthodlccjnbadhaaDoor.As
