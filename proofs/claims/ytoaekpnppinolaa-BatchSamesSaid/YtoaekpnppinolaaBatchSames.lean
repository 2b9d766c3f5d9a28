/- The law BatchSames returns true and changes nothing. No condition. -/
import Derived.Test.YtoaekpnppinolaaSames
import Derived.Test.YtoaekpnppinolaaOpenB
import Derived.KernelRfl
import Derived.Deep.RegionWith
namespace Go.Proofs.Ytoaekpnppinolaa
open Go.RowKit
set_option maxHeartbeats 1000000 in
theorem walkBatchSames (a b : BatArg) (w : World) (ha' : Bat w a ∧ BatFits a) (hb' : Bat w b ∧ BatFits b) :
    Calls Try.prog 5 #[a.v, b.v] w fun e w' => e = .returned (.bool true) ∧ Below w.heap.size w w' := by
  have ha := ha'.1
  have hb := hb'.1
  clear ha' hb'
  have HA := ha
  have HB := hb
  obtain ⟨A, n, c, A', n', c', A'', n'', c'', f, h, l⟩ := a
  obtain ⟨B, m, d, B', m', d', B'', m'', d'', f', h', l'⟩ := b
  obtain ⟨a1, a2, a3, a4, a5, a6⟩ := ha
  obtain ⟨b1, b2, b3, b4, b5, b6⟩ := hb
  have hbel : Below w.heap.size w ((w.alloc (.cells #[.slice A n c, .slice A' n' c', .slice A'' n'' c''] 31)).alloc (.cells #[.slice B m d, .slice B' m' d', .slice B'' m'' d''] 31)) := below2' _ _ _
  have k0 := Inv.cell (w := (w.alloc (.cells #[.slice A n c, .slice A' n' c', .slice A'' n'' c''] 31)).alloc (.cells #[.slice B m d, .slice B' m' d', .slice B'' m'' d''] 31)) (a := ⟨w.heap.size, 0, none⟩) (v := .slice A n c) (by rw [World.cell?_alloc_lt _ _ _ (by simp), World.cell?_alloc_new]; rfl)
  have k1 := Inv.cell (w := (w.alloc (.cells #[.slice A n c, .slice A' n' c', .slice A'' n'' c''] 31)).alloc (.cells #[.slice B m d, .slice B' m' d', .slice B'' m'' d''] 31)) (a := ⟨w.heap.size, 1, none⟩) (v := .slice A' n' c') (by rw [World.cell?_alloc_lt _ _ _ (by simp), World.cell?_alloc_new]; rfl)
  have k2 := Inv.cell (w := (w.alloc (.cells #[.slice A n c, .slice A' n' c', .slice A'' n'' c''] 31)).alloc (.cells #[.slice B m d, .slice B' m' d', .slice B'' m'' d''] 31)) (a := ⟨w.heap.size, 2, none⟩) (v := .slice A'' n'' c'') (by rw [World.cell?_alloc_lt _ _ _ (by simp), World.cell?_alloc_new]; rfl)
  have k3 := Inv.cell (w := (w.alloc (.cells #[.slice A n c, .slice A' n' c', .slice A'' n'' c''] 31)).alloc (.cells #[.slice B m d, .slice B' m' d', .slice B'' m'' d''] 31)) (a := ⟨w.heap.size + 1, 0, none⟩) (v := .slice B m d) (by rw [World.cell?_alloc_at _ _ _ _ (by simp)]; rfl)
  have k4 := Inv.cell (w := (w.alloc (.cells #[.slice A n c, .slice A' n' c', .slice A'' n'' c''] 31)).alloc (.cells #[.slice B m d, .slice B' m' d', .slice B'' m'' d''] 31)) (a := ⟨w.heap.size + 1, 1, none⟩) (v := .slice B' m' d') (by rw [World.cell?_alloc_at _ _ _ _ (by simp)]; rfl)
  have k5 := Inv.cell (w := (w.alloc (.cells #[.slice A n c, .slice A' n' c', .slice A'' n'' c''] 31)).alloc (.cells #[.slice B m d, .slice B' m' d', .slice B'' m'' d''] 31)) (a := ⟨w.heap.size + 1, 2, none⟩) (v := .slice B'' m'' d'') (by rw [World.cell?_alloc_at _ _ _ _ (by simp)]; rfl)
  have GA := fun x => (HA.grow hbel).grow (Inv.below x)
  have GB := fun x => (HB.grow hbel).grow (Inv.below x)
  replace GA := Lib.hid GA
  replace GB := Lib.hid GB
  clear HA HB a1 a2 a3 b1 b2 b3
  simp only [BatArg.v]
  have HAB : ∃ x y, bigB n n' n'' l = x ∧ bigB m m' m'' l' = y := ⟨_, _, rfl, rfl⟩
  obtain ⟨x, y, ba, bb⟩ := HAB
  replace ba := Lib.hid ba
  replace bb := Lib.hid bb
  cases x
  · cases y
    · skip
      go_enter Try.func5, Try.ntmps5
      go_wp2_with fail
      refine wp_region_inv (by kernel_rfl) (by kernel_rfl) ?_
      repeat (go_big_quiet_step ((first
        | (go_at_call_of 18 (Value.agg #[.slice A n c, .slice A' n' c', .slice A'' n'' c'']); exact Calls.inv_of (big_is A A' A'' n n' n'' c c' c'' l _ (GA.out _).l a6 ba.out))
        | (go_at_call_of 18 (Value.agg #[.slice B m d, .slice B' m' d', .slice B'' m'' d'']); exact Calls.inv_of (big_is B B' B'' m m' m'' d d' d'' l' _ (GB.out _).l b6 bb.out))
        | (go_at_call 19; exact Calls.inv_of (same_any ⟨A, n, c, A', n', c', A'', n'', c'', f, h, l⟩ ⟨B, m, d, B', m', d', B'', m'', d'', f', h', l'⟩ _ (GA.out _) (GB.out _)))
        | (go_at_call 20; exact Calls.inv_of (rsame_any ⟨A, n, c, A', n', c', A'', n'', c'', f, h, l⟩ ⟨B, m, d, B', m', d', B'', m'', d'', f', h', l'⟩ _ (GA.out _) (GB.out _))))))
      refine wpQuiet_nil ?_
      intro _ hw'
      obtain ⟨x, rfl⟩ := hw'
      go_wp2
      go_ret
      exact ⟨rfl, hbel.trans (x.below.mono hbel.size)⟩
    · skip
      go_enter Try.func5, Try.ntmps5
      go_wp2_with fail
      refine wp_region_inv (by kernel_rfl) (by kernel_rfl) ?_
      repeat (go_big_quiet_step ((first
        | (go_at_call_of 18 (Value.agg #[.slice A n c, .slice A' n' c', .slice A'' n'' c'']); exact Calls.inv_of (big_is A A' A'' n n' n'' c c' c'' l _ (GA.out _).l a6 ba.out))
        | (go_at_call_of 18 (Value.agg #[.slice B m d, .slice B' m' d', .slice B'' m'' d'']); exact Calls.inv_of (big_is B B' B'' m m' m'' d d' d'' l' _ (GB.out _).l b6 bb.out))
        | (go_at_call 19; exact Calls.inv_of (same_any ⟨A, n, c, A', n', c', A'', n'', c'', f, h, l⟩ ⟨B, m, d, B', m', d', B'', m'', d'', f', h', l'⟩ _ (GA.out _) (GB.out _)))
        | (go_at_call 20; exact Calls.inv_of (rsame_any ⟨A, n, c, A', n', c', A'', n'', c'', f, h, l⟩ ⟨B, m, d, B', m', d', B'', m'', d'', f', h', l'⟩ _ (GA.out _) (GB.out _))))))
      refine wpQuiet_nil ?_
      intro _ hw'
      obtain ⟨x, rfl⟩ := hw'
      go_wp2
      go_ret
      exact ⟨rfl, hbel.trans (x.below.mono hbel.size)⟩
  · skip
    go_enter Try.func5, Try.ntmps5
    go_wp2_with fail
    refine wp_region_inv (by kernel_rfl) (by kernel_rfl) ?_
    repeat (go_big_quiet_step ((first
      | (go_at_call_of 18 (Value.agg #[.slice A n c, .slice A' n' c', .slice A'' n'' c'']); exact Calls.inv_of (big_is A A' A'' n n' n'' c c' c'' l _ (GA.out _).l a6 ba.out))
      | (go_at_call_of 18 (Value.agg #[.slice B m d, .slice B' m' d', .slice B'' m'' d'']); exact Calls.inv_of (big_is B B' B'' m m' m'' d d' d'' l' _ (GB.out _).l b6 bb.out))
      | (go_at_call 19; exact Calls.inv_of (same_any ⟨A, n, c, A', n', c', A'', n'', c'', f, h, l⟩ ⟨B, m, d, B', m', d', B'', m'', d'', f', h', l'⟩ _ (GA.out _) (GB.out _)))
      | (go_at_call 20; exact Calls.inv_of (rsame_any ⟨A, n, c, A', n', c', A'', n'', c'', f, h, l⟩ ⟨B, m, d, B', m', d', B'', m'', d'', f', h', l'⟩ _ (GA.out _) (GB.out _))))))
    refine wpQuiet_nil ?_
    intro _ hw'
    obtain ⟨x, rfl⟩ := hw'
    go_wp2
    go_ret
    exact ⟨rfl, hbel.trans (x.below.mono hbel.size)⟩
end Go.Proofs.Ytoaekpnppinolaa
