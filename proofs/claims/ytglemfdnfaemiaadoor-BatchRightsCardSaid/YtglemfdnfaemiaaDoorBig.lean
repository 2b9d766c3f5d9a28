/- The law's own function big: how much a batch has. -/
import Derived.Test.YtglemfdnfaemiaaDoorEqualS
namespace Go.Proofs.YtglemfdnfaemiaaDoor
open Go.RowKit
theorem below1' (w : World) (o : Obj) : Below w.heap.size w (w.alloc o) := (Below.refl _ _).alloc (Nat.le_refl _) o
def bigStep (z : Int) (x : Wr) : Int := wrap64 (z + wrap64 ((wrap64 ((x.2.2.2.1.size : Int) + (x.2.2.2.2.1.size : Int))).tdiv 8))
def bigN (z : Int) (l : List Wr) : Int := l.foldl bigStep z
theorem bigN_take (z : Int) (k : Nat) (l : List Wr) (x : Wr) (h : l[k]? = some x) : bigN z (l.take (k + 1)) = bigStep (bigN z (l.take k)) x := by
  have hk : k < l.length := (List.getElem?_eq_some_iff.1 h).1
  rw [List.take_succ_eq_append_getElem hk]
  rw [List.getElem?_eq_getElem hk] at h
  injection h with h
  simp only [bigN, List.foldl_append, List.foldl_cons, List.foldl_nil, h]
theorem bigN_0 (z : Int) (l : List Wr) : bigN z (l.take 0) = z := by simp only [bigN, List.take_zero, List.foldl_nil]
theorem bigStep_eq (z : Int) (x : Wr) : bigStep z x = wrap64 (z + wrap64 ((wrap64 ((x.2.2.2.1.size : Int) + (x.2.2.2.2.1.size : Int))).tdiv 8)) := by simp only [bigStep]
def bigZ (n n' n'' : Nat) : Int := wrap64 (wrap64 ((n : Int) + (n' : Int)) + (n'' : Int))
theorem bigZ_eq (n n' n'' : Nat) : wrap64 (wrap64 ((n : Int) + (n' : Int)) + (n'' : Int)) = bigZ n n' n'' := by simp only [bigZ]
def bigB (n n' n'' : Nat) (l : List Wr) : Bool := decide (300 < bigN (bigZ n n' n'') l)
theorem big_any (A A' A'' : Option Addr) (n n' n'' c c' c'' : Nat) (l : List Wr) (w : World) (h : Sl w w.heap.size 6 A'' n'' (l.flatMap wrCells)) (hn'' : n'' ≤ maxLen) :
    Calls Tryd.prog 83 #[.agg #[.slice A n c, .slice A' n' c', .slice A'' n'' c'']] w fun e w' => e = .returned (.bool (bigB n n' n'' l)) ∧ Below w.heap.size w w' := by
  unfold maxLen at hn''
  have hl := Lib.hid (slk_len wrCells 6 (by omega) (fun _ => rfl) h)
  have hz := bigZ_eq n n' n''
  have hB : Hid (bigB n n' n'' l = decide (300 < bigN (bigZ n n' n'') l)) := Lib.hid (by simp only [bigB])
  generalize bigZ n n' n'' = z0 at *
  generalize bigB n n' n'' l = bb at *
  go_enter Tryd.func83, Tryd.ntmps83
  go_wp2
  go_loopw [3, 5, 20] (fun v _ i wr => (∃ k : Nat, k ≤ n'' ∧ i = .int .i64 k ∧ v = .int .i64 (bigN z0 (l.take k))) ∧ Below w.heap.size w wr) (fun _ _ i _ => n'' - (intOf i).toNat)
  case atStart => exact ⟨⟨0, by omega, rfl, valI (hz.trans (bigN_0 _ _).symm)⟩, below1' _ _⟩
  case round =>
    obtain ⟨⟨k, hk, rfl, rfl⟩, hbel⟩ := hrel
    clear hz
    by_cases hlt : k < n''
    · obtain ⟨b, o, x, rfl, hb, hx, hc⟩ := slk_at wrCells 6 (fun _ => rfl) h hl.out hlt
      obtain ⟨a1, a2, a3, a4, a5, a6⟩ := x
      have c0 := (hbel.cell (p := ⟨b, _, none⟩) hb).trans (hc 0 _ rfl)
      have c1 := (hbel.cell (p := ⟨b, _, none⟩) hb).trans (hc 1 _ rfl)
      have c2 := (hbel.cell (p := ⟨b, _, none⟩) hb).trans (hc 2 _ rfl)
      have c3 := (hbel.cell (p := ⟨b, _, none⟩) hb).trans (hc 3 _ rfl)
      have c4 := (hbel.cell (p := ⟨b, _, none⟩) hb).trans (hc 4 _ rfl)
      have c5 := (hbel.cell (p := ⟨b, _, none⟩) hb).trans (hc 5 _ rfl)
      simp only [Nat.add_zero] at c0
      have hsz := hbel.size
      have hst := Lib.hid (bigN_take z0 k l _ hx)
      clear hc h hx
      go_wp2_with fail
      go_roundw
      case rel => exact ⟨⟨k + 1, by omega, by go_num, by rw [hst.out, bigStep_eq]⟩, hbel.alloc hsz _⟩
      case measure => simp [intOf]; omega
    · obtain rfl : k = n'' := by omega
      have htk : l.take k = l := List.take_of_length_le (by rw [hl.out]; exact Nat.le_refl _)
      rw [htk]
      go_wp2_with fail
      go_ret
      exact ⟨by rw [hB.out]; rfl, hbel⟩
theorem big_is (A A' A'' : Option Addr) (n n' n'' c c' c'' : Nat) (l : List Wr) (w : World) (h : Sl w w.heap.size 6 A'' n'' (l.flatMap wrCells)) (hn'' : n'' ≤ maxLen) {x : Bool} (hx : bigB n n' n'' l = x) :
    Calls Tryd.prog 83 #[.agg #[.slice A n c, .slice A' n' c', .slice A'' n'' c'']] w fun e w' => e = .returned (.bool x) ∧ Below w.heap.size w w' := by
  rw [← hx]
  exact big_any A A' A'' n n' n'' c c' c'' l w h hn''
end Go.Proofs.YtglemfdnfaemiaaDoor
