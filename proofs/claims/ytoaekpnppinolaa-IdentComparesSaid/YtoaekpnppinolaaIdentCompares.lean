/- The law IdentCompares returns true and changes nothing. No condition. -/
import Derived.Test.YtoaekpnppinolaaIdents
import Derived.Test.YtoaekpnppinolaaOpenE
namespace Go.Proofs.Ytoaekpnppinolaa
open Go.RowKit
theorem walkIdentCompares (a b : Ent) (f h : EntArg) (w : World) (ha : entFits a) (hb : entFits b) (hf : Ents w w.heap.size f.A f.n f.l ∧ f.n ≤ maxLen) (hh : Ents w w.heap.size h.A h.n h.l ∧ h.n ≤ maxLen) :
    Calls Try.prog 9 #[.agg #[.int .i64 a.1, .int .i64 a.2], .agg #[.int .i64 b.1, .int .i64 b.2], .slice f.A f.n f.c, .slice h.A h.n h.c] w fun e w' => e = .returned (.bool true) ∧ Below w.heap.size w w' := by
  obtain ⟨t, r⟩ := a
  obtain ⟨t', r'⟩ := b
  obtain ⟨A, n, c, l⟩ := f
  obtain ⟨A', n', c', l'⟩ := h
  obtain ⟨hf, hn⟩ := hf
  obtain ⟨hh, hn'⟩ := hh
  clear ha hb
  simp only at hf hn hh hn'
  have b0 : Below w.heap.size w ((w.alloc (.cells #[.int .i64 t, .int .i64 r] 49)).alloc (.cells #[.int .i64 t', .int .i64 r'] 49)) := below2 _ _ _
  have c0 := Inv.cell (w := ((w.alloc (.cells #[.int .i64 t, .int .i64 r] 49)).alloc (.cells #[.int .i64 t', .int .i64 r'] 49))) (a := ⟨w.heap.size, 0, none⟩) (v := .int .i64 t) (by rw [World.cell?_alloc_lt _ _ _ (by simp), World.cell?_alloc_new]; rfl)
  have c1 := Inv.cell (w := ((w.alloc (.cells #[.int .i64 t, .int .i64 r] 49)).alloc (.cells #[.int .i64 t', .int .i64 r'] 49))) (a := ⟨w.heap.size, 1, none⟩) (v := .int .i64 r) (by rw [World.cell?_alloc_lt _ _ _ (by simp), World.cell?_alloc_new]; rfl)
  have c2 := Inv.cell (w := ((w.alloc (.cells #[.int .i64 t, .int .i64 r] 49)).alloc (.cells #[.int .i64 t', .int .i64 r'] 49))) (a := ⟨w.heap.size + 1, 0, none⟩) (v := .int .i64 t') (by rw [World.cell?_alloc_at _ _ _ _ (by simp)]; rfl)
  have c3 := Inv.cell (w := ((w.alloc (.cells #[.int .i64 t, .int .i64 r] 49)).alloc (.cells #[.int .i64 t', .int .i64 r'] 49))) (a := ⟨w.heap.size + 1, 1, none⟩) (v := .int .i64 r') (by rw [World.cell?_alloc_at _ _ _ _ (by simp)]; rfl)
  go_enter Try.func9, Try.ntmps9
  go_wp2_with fail
  · go_ret
    exact ⟨rfl, b0⟩
  refine wp_region_inv (by kernel_rfl) (by kernel_rfl) ?_
  repeat (go_big_quiet_step ((first
      | (go_at_call 31; exact Calls.inv_of (compare_any t r t' r' _))
      | (go_at_call 32; exact Calls.inv_of (rcompare_any t r t' r' _))
      | (go_at_call 33; exact Calls.inv_of (idright_any t r _))
      | (go_at_call 34; exact Calls.inv_of (ridright_any t r _))
      | (go_at_call 35; exact Calls.inv_of (iwithin_any t r n n' c c' A A' l l' _ (hf.inv b0 _) (hh.inv b0 _) hn hn'))
      | (go_at_call 36; exact Calls.inv_of (rwithin_any t r n n' c c' A A' l l' _ (hf.inv b0 _) (hh.inv b0 _) hn hn')))))
  refine wpQuiet_nil ?_
  intro _ hw'
  obtain ⟨x, rfl⟩ := hw'
  go_wp2
  go_ret
  exact ⟨rfl, b0.trans (x.below.mono b0.size)⟩
end Go.Proofs.Ytoaekpnppinolaa
