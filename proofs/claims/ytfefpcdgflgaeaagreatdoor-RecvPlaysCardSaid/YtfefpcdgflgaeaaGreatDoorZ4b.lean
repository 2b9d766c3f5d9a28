/- slices.Repeat of one text.

The program's new disk.

The program's receiver in memory.

The program's receiver: Offer, Safe, Flush.

The Go functions one, More, Sum of package crc and carry, More, Sum of the reference compute what the plain functions of CrcLaw say. No condition but that the numbers fit. -/
import Derived.Test.YtfefpcdgflgaeaaGreatDoorZ4
import Derived.Test.YtfefpcdgflgaeaaGreatDoorShelfDisk
import Derived.OwnWalk
import Derived.Test.YtfefpcdgflgaeaaGreatDoorZ2
import Derived.Test.YtfefpcdgflgaeaaGreatDoorProg
import Derived.Test.YtfefpcdgflgaeaaGreatDoorZ1
import Derived.WalkKit
import Derived.WalkLawsBesides
import Derived.WalkSpells
import Derived.Outline
import Derived.Lib.Hide
import Derived.Laws.BitsAllLaws
section
namespace Go.Proofs.YtfefpcdgflgaeaaGreatDoor
set_option linter.unusedSimpArgs false
set_option linter.unusedVariables false
open Go.RowKit As
theorem strInfoD : (Tryz.prog.info? 9).map (fun i => (i.zero, i.size, i.bytes)) = some (some (.string ⟨#[]⟩), 1, 16) := by kernel_rfl
/-- n texts lie in block g; the first k of them are z. -/
def RepAt (w : World) (g n k : Nat) (z : ByteArray) : Prop := ∃ xs : List Value, w.ownsRow g 9 1 (.slice (some ⟨g, 0, none⟩) n n) n xs ∧ ∀ i, i < k → xs[i]? = some (.string z)
theorem RepAt.set {w : World} {g n k : Nat} {z : ByteArray} (h : RepAt w g n k z) (hk : k < n) : RepAt (w.setCell ⟨g, k, none⟩ (.string z)) g n (k + 1) z := by
 obtain ⟨xs, ho, hx⟩ := h
 refine ⟨xs.set k (.string z), (ho.stored k (.string z)).1, fun i hi => ?_⟩
 rw [List.getElem?_set]
 by_cases e : k = i
 ·subst e
  rw [if_pos rfl, if_pos (by have := ho.1; omega)]
 ·rw [if_neg e]; exact hx i (by omega)
theorem RepAt.sets {g n : Nat} {z : ByteArray} : ∀ (m k : Nat) {w : World}, RepAt w g n k z → k + m ≤ n → RepAt (w.setCells g k (List.replicate m (.string z))) g n (k + m) z
 | 0, k, w, h, _ => h
 | m + 1, k, w, h, hk => by
  rw [List.replicate_succ, World.setCells, show k + (m + 1) = (k + 1) + m by omega]
  exact RepAt.sets m (k + 1) (h.set (by omega)) (by omega)
theorem RepAt.done {w : World} {g n : Nat} {z : ByteArray} (h : RepAt w g n n z) : w.ownsRow g 9 1 (.slice (some ⟨g, 0, none⟩) n n) n (List.replicate n (.string z)) := by
 obtain ⟨xs, ho, hx⟩ := h
 have e : xs = List.replicate n (.string z) := by
  apply List.ext_getElem?
  intro i
  by_cases hi : i < n
  ·rw [hx i hi, List.getElem?_replicate, if_pos hi]
  ·rw [List.getElem?_eq_none (by have := ho.1; omega), List.getElem?_eq_none (by simp; omega)]
 rw [← e]; exact ho
def rpV (G n k m : Nat) (g : Unit) : Nat → Value
 | 0 => .int .i64 (k : Int)
 | 1 => .slice (some ⟨G, 0, none⟩) n n
 | 2 => .int .i64 (k : Int)
 | 3 => .slice (some ⟨G, k, none⟩) (n - k) (n - k)
 | 4 => .slice (some ⟨G, 0, none⟩) n n
 | 5 => .int .i64 (k : Int)
 | 6 => .slice (some ⟨G, 0, none⟩) k n
 | 7 => .int .i64 (m : Int)
 | 8 => .int .i64 ((k : Int) + (m : Int))
 | 9 => .int .i64 ((k : Int) + (m : Int))
 | _ => undef
theorem setCells_below' {N B : Nat} {a : World} (hB : N ≤ B) : ∀ (vs : List Value) (o : Nat) {w : World}, Below N a w → Below N a (w.setCells B o vs)
 | [], _, _, h => h
 | v :: r, o, w, h => setCells_below' hB r (o + 1) (h.setCell (p := ⟨B, o, none⟩) hB v)
theorem repSize : (Tryz.prog.info? 9).map (·.size) = some 1 := by kernel_rfl
theorem rep_new (w : World) (n : Nat) (z : ByteArray) (hn : n ≤ maxLen) : RepAt (w.alloc (.cells (madeCells #[.string ⟨#[]⟩] n) 9)) w.heap.size n 0 z :=
 ⟨(madeCells #[.string ⟨#[]⟩] n).toList, ⟨by simp [madeCells], .inr ⟨w.heap.size, n, madeCells #[.string ⟨#[]⟩] n, rfl, Nat.le_refl _, (Go.MapKept.heap_alloc w _).1, Nat.le_refl _, hn, by simp [madeCells], by rw [Nat.mul_one]; exact List.take_of_length_le (by simp [madeCells])⟩⟩, fun i hi => absurd hi (Nat.not_lt_zero i)⟩
theorem rep_src {w : World} {g n k m : Nat} {z : ByteArray} {xs : List Value} (ho : w.ownsRow g 9 1 (.slice (some ⟨g, 0, none⟩) n n) n xs) (hx : ∀ i, i < k → xs[i]? = some (.string z)) (hm : m ≤ k) : ∀ j v, (List.replicate m (.string z : Value))[j]? = some v → w.cell? ((⟨g, 0, none⟩ : Addr).add j) = some v := by
 intro j v hv
 have e : (⟨g, 0, none⟩ : Addr).add j = ⟨g, j, none⟩ := by unfold Addr.add; split <;> simp_all
 have hj : j < m := by have := (List.getElem?_eq_some_iff.1 hv).1; simpa using this
 rw [List.getElem?_replicate, if_pos hj] at hv
 rw [e, ho.cellAt j (by have h1 := (List.getElem?_eq_some_iff.1 (hx j (by omega))).1; have := ho.1; omega), hx j (by omega), hv]
theorem rep_isS {w : World} {g n k m : Nat} {z : ByteArray} {xs : List Value} (ho : w.ownsRow g 9 1 (.slice (some ⟨g, 0, none⟩) n n) n xs) (hkm : k + m ≤ n) : ∀ j, j < (List.replicate m (.string z : Value)).length → (w.cell? ⟨g, k + j, none⟩).isSome = true := by
 intro j hj
 rw [List.length_replicate] at hj
 rw [ho.cellAt (k + j) (by omega), List.getElem?_eq_getElem (by have := ho.1; omega)]
 rfl
theorem rep_first (w1 : World) (n : Nat) (z : ByteArray) (b : Nat) (hb : (w1.alloc (.cells (madeCells #[.string ⟨#[]⟩] n) 9)).cell? ⟨b, 0, none⟩ = some (.string z)) (h : RepAt (w1.alloc (.cells (madeCells #[.string ⟨#[]⟩] n) 9)) w1.heap.size n 0 z) :
  ∃ (k : Nat) (W : World), (Builtin.copy_ #[59, 59] 3 #[.slice (some ⟨w1.heap.size, 0, none⟩) n n, .slice (some ⟨b, 0, none⟩) 1 1]).run Tryz.prog (w1.alloc (.cells (madeCells #[.string ⟨#[]⟩] n) 9)) = .ok (.int .i64 (k : Int)) W ∧ (k ≤ n ∧ (0 < k ∨ n = 0)) ∧ RepAt W w1.heap.size n k z ∧ Below w1.heap.size (w1.alloc (.cells (madeCells #[.string ⟨#[]⟩] n) 9)) W := by
 by_cases h0 : n = 0
 ·subst h0
  exact ⟨0, _, run_copy_none _ _ _ _ 9 _ _ _ _ _ _ Tryz.underlying59 repSize rfl, ⟨Nat.le_refl _, .inr rfl⟩, h, Below.refl _ _⟩
 ·obtain ⟨xs, ho, hx⟩ := h
  have hcp := run_copy_cells (P := Tryz.prog) (w1.alloc (.cells (madeCells #[.string ⟨#[]⟩] n) 9)) 59 59 3 9 w1.heap.size 0 n n ⟨b, 0, none⟩ 1 1 [.string z] Tryz.underlying59 repSize (by show 1 = min 1 n; omega)
   (by intro j v hv; cases j with
     | zero => simp at hv; subst hv; simpa [Addr.add] using hb
     | succ j => simp at hv)
   (by intro j hj; have h1 := rep_isS (z := z) (k := 0) (m := 1) ho (by omega) j (by simpa using hj); exact h1) (fun j _ => ho.frozenAt _) (by intro v hv; simp at hv; subst hv; rfl)
  exact ⟨1, _, hcp, ⟨by omega, .inl (by omega)⟩, RepAt.sets 1 0 ⟨xs, ho, hx⟩ (by omega), setCells_below' (Nat.le_refl _) _ 0 (Below.refl _ _)⟩
set_option maxHeartbeats 2000000 in
set_option maxRecDepth 100000 in
theorem rep_any (b n : Nat) (z : ByteArray) (w : World) (hn : n ≤ 140) (hb : w.cell? ⟨b, 0, none⟩ = some (.string z)) :
    Calls Tryz.prog 60 #[.slice (some ⟨b, 0, none⟩) 1 1, .int .i64 (n : Int)] w fun e w' => e = .returned (.slice (some ⟨w.heap.size, 0, none⟩) n n) ∧ w'.ownsRow w.heap.size 9 1 (.slice (some ⟨w.heap.size, 0, none⟩) n n) n (List.replicate n (.string z)) ∧ Below w.heap.size w w' := by
  obtain ⟨i0, hi, hz0, hz1, hz2⟩ := info_parts strInfoD
  have d0 : decide ((n : Int) < 0) = false := decide_eq_false (by omega)
  have hlt : b < w.heap.size := cell_lt hb
  go_enter Tryz.func60, Tryz.ntmps60
  go_wp2_with fail
  refine (Tryz.bits_Mul 1 n (by omega) (by omega) w).mono ?_
  rintro r w1 ⟨rfl, rfl⟩
  rw [show 1 * n / 18446744073709551616 = 0 by omega, show 1 * n % 18446744073709551616 = n by omega]
  have hmk0 := run_make_row' (P := Tryz.prog) 59 9 (.string ⟨#[]⟩) 16 Tryz.underlying59 strInfoD rfl .i64 .i64 n (by omega) (by omega) w1
  have bW := below1 w1 (.cells (madeCells #[.string ⟨#[]⟩] n) 9)
  have hR0 := rep_new w1 n z (by unfold maxLen; omega)
  have hb1 := (bW.cell hlt).trans hb
  obtain ⟨k0, W2, hcp0, hk0, hR1, hb2⟩ := rep_first w1 n z b hb1 hR0
  have hb2' := bW.trans hb2
  clear hR0 hb1 bW hb2
  go_wp2
  clear hcp0 hmk0
  go_loopw [8] (fun iv wr => ∃ k : Nat, k ≤ n ∧ (0 < k ∨ n = 0) ∧ iv = .int .i64 (k : Int) ∧ RepAt wr w1.heap.size n k z ∧ Below w1.heap.size w1 wr) (fun iv _ => n - (intOf iv).toNat)
  case atStart => exact ⟨k0, hk0.1, hk0.2, rfl, hR1, hb2'⟩
  case round =>
    clear hR1 hb2'
    obtain ⟨k, hk, hpos0, rfl, hR, hb'⟩ := hrel
    by_cases hlt' : k < n
    · obtain ⟨xs, ho, hx⟩ := hR
      obtain ⟨m, hmm⟩ : ∃ m, m = Nat.min k (n - k) := ⟨_, rfl⟩
      have hm := Lib.hid hmm
      have hpos := Lib.hid (show 0 < m by rw [hmm]; exact Nat.lt_min.2 ⟨by omega, by omega⟩)
      have hmk := Lib.hid (show m ≤ k by rw [hmm]; exact Nat.min_le_left _ _)
      have hkm := Lib.hid (show k + m ≤ n by have : m ≤ n - k := by rw [hmm]; exact Nat.min_le_right _ _
                                             omega)
      have t0 : decide ((k : Int) < (n : Int)) = true := decide_eq_true (by omega)
      have ik : (0 : Int) ≤ (k : Int) := by omega
      have ik2 : (k : Int) ≤ (n : Int) := by omega
      have ik3 : k ≤ n := hk
      have ik4 : n ≠ k := by omega
      have ik5 : ((n : Int) - (k : Int)).toNat = n - k := by omega
      have ik6 : (n : Int) ≤ 9223372036854775807 := by omega
      have wkm : IntKind.i64.wrap ((k : Int) + (m : Int)) = (k : Int) + (m : Int) := IntWalk.i64_in _ (by have := hkm.out; omega)
      clear hmm hpos0 hk
      go_wp2
      refine Flow.wp_region_go (by kernel_rfl) (by kernel_rfl) (by kernel_rfl) 48 rfl (by kernel_rfl) (rpV w1.heap.size n k m) (fun _ L wz => RepAt wz w1.heap.size n (cond (L 7) (k + m) k) z ∧ Below w1.heap.size w1 wz) (fun _ _ => False) (()) (⟨⟨_, (Turned.of_below (S := fun _ => False) (Below.refl _ _).drew).own ho (fun _ _ => id), hx⟩, hb'.drew⟩) ⟨?_, ?_, ?_, ?_, ?_, ?_, ?_, ?_, ?_, ?_, trivial⟩ ?_ ?_
      · intro g L wz K ρ hc0 hf0 hF hO hU hcl hi hd hC hK
        have e8 : ρ (.tmp 8) = .int .i64 (k : Int) := hU 8 9 (by kernel_rfl) (by cases h : L 9 with | false => rfl | true => (have := hcl 9 0 (by kernel_rfl) h; rw [hi] at this; cases this))
        simp [go_sem, Flow.ylP_value, Flow.ylP_skip, Flow.ylP_enter, Flow.ylP_panic, hc0, hf0, e8]
        exact hK g wz hC (fun _ _ => rfl)
      · intro g L wz K ρ hc0 hf0 hF hO hU hcl hi hd hC hK
        have e7 : ρ (.tmp 7) = .slice (some ⟨w1.heap.size, 0, none⟩) n n := hO 7 (by kernel_rfl)
        simp [go_sem, Flow.ylP_value, Flow.ylP_skip, Flow.ylP_enter, Flow.ylP_panic, hc0, hf0, e7]
        exact hK g wz hC (fun _ _ => rfl)
      · intro g L wz K ρ hc0 hf0 hF hO hU hcl hi hd hC hK
        have e8 : ρ (.tmp 8) = .int .i64 (k : Int) := hU 8 9 (by kernel_rfl) (by cases h : L 9 with | false => rfl | true => (have := hcl 9 2 (by kernel_rfl) h; rw [hi] at this; cases this))
        simp [go_sem, Flow.ylP_value, Flow.ylP_skip, Flow.ylP_enter, Flow.ylP_panic, hc0, hf0, e8]
        exact hK g wz hC (fun _ _ => rfl)
      · intro g L wz K ρ hc0 hf0 hF hO hU hcl hi hd hC hK
        have d1 : L 1 = true := hd ⟨1, .data⟩ (by simp) rfl
        have e39 : ρ (.tmp 39) = .slice (some ⟨w1.heap.size, 0, none⟩) n n := hF 39 1 (by kernel_rfl) d1
        have d2 : L 2 = true := hd ⟨2, .data⟩ (by simp) rfl
        have e40 : ρ (.tmp 40) = .int .i64 (k : Int) := hF 40 2 (by kernel_rfl) d2
        simp [go_sem, Flow.ylP_value, Flow.ylP_skip, Flow.ylP_enter, Flow.ylP_panic, hc0, hf0, e39, e40, ik, ik2, ik3, ik4, ik5]
        exact hK g wz hC (fun _ _ => rfl)
      · intro g L wz K ρ hc0 hf0 hF hO hU hcl hi hd hC hK
        have e7 : ρ (.tmp 7) = .slice (some ⟨w1.heap.size, 0, none⟩) n n := hO 7 (by kernel_rfl)
        simp [go_sem, Flow.ylP_value, Flow.ylP_skip, Flow.ylP_enter, Flow.ylP_panic, hc0, hf0, e7]
        exact hK g wz hC (fun _ _ => rfl)
      · intro g L wz K ρ hc0 hf0 hF hO hU hcl hi hd hC hK
        have e8 : ρ (.tmp 8) = .int .i64 (k : Int) := hU 8 9 (by kernel_rfl) (by cases h : L 9 with | false => rfl | true => (have := hcl 9 5 (by kernel_rfl) h; rw [hi] at this; cases this))
        simp [go_sem, Flow.ylP_value, Flow.ylP_skip, Flow.ylP_enter, Flow.ylP_panic, hc0, hf0, e8]
        exact hK g wz hC (fun _ _ => rfl)
      · intro g L wz K ρ hc0 hf0 hF hO hU hcl hi hd hC hK
        have d4 : L 4 = true := hd ⟨4, .data⟩ (by simp) rfl
        have e42 : ρ (.tmp 42) = .slice (some ⟨w1.heap.size, 0, none⟩) n n := hF 42 4 (by kernel_rfl) d4
        have d5 : L 5 = true := hd ⟨5, .data⟩ (by simp) rfl
        have e43 : ρ (.tmp 43) = .int .i64 (k : Int) := hF 43 5 (by kernel_rfl) d5
        simp [go_sem, Flow.ylP_value, Flow.ylP_skip, Flow.ylP_enter, Flow.ylP_panic, hc0, hf0, e42, e43, ik, ik2, ik3, ik6]
        exact hK g wz hC (fun _ _ => rfl)
      · intro g L wz K ρ hc0 hf0 hF hO hU hcl hi hd hC hK
        have d3 : L 3 = true := hd ⟨3, .data⟩ (by simp) rfl
        have e41 : ρ (.tmp 41) = .slice (some ⟨w1.heap.size, k, none⟩) (n - k) (n - k) := hF 41 3 (by kernel_rfl) d3
        have d6 : L 6 = true := hd ⟨6, .data⟩ (by simp) rfl
        have e44 : ρ (.tmp 44) = .slice (some ⟨w1.heap.size, 0, none⟩) k n := hF 44 6 (by kernel_rfl) d6
        rw [hi] at hC
        obtain ⟨xs9, ho9, hx9⟩ := hC.1
        have hcp := run_copy_cells (P := Tryz.prog) wz 59 59 3 9 w1.heap.size k (n - k) (n - k) ⟨w1.heap.size, 0, none⟩ k n (List.replicate m (.string z)) Tryz.underlying59 repSize (by rw [List.length_replicate]; exact hm.out) (rep_src ho9 hx9 hmk.out) (rep_isS ho9 hkm.out) (fun j _ => ho9.frozenAt _) (by intro v hv; rw [List.mem_replicate] at hv; rw [hv.2]; rfl)
        rw [List.length_replicate] at hcp
        unfold execOp
        simp only [resolve, invoke, builtin, Sem.run_bind, Sem.run_pure, Result.andThen_ok, List.map_toArray, List.map_cons, List.map_nil, e41, e44, hcp]
        refine hK () _ ⟨hC.1.sets m k hkm.out, setCells_below' (Nat.le_refl _) _ k hC.2⟩ (by intro j hj; unfold rpV; split <;> first | rfl | (rw [hi] at hj; cases hj) | (have hz := hcl _ 7 (by kernel_rfl) hj; rw [hi] at hz; cases hz))
      · intro g L wz K ρ hc0 hf0 hF hO hU hcl hi hd hC hK
        have d0 : L 0 = true := hd ⟨0, .data⟩ (by simp) rfl
        have e38 : ρ (.tmp 38) = .int .i64 (k : Int) := hF 38 0 (by kernel_rfl) d0
        have d7 : L 7 = true := hd ⟨7, .data⟩ (by simp) rfl
        have e45 : ρ (.tmp 45) = .int .i64 (m : Int) := hF 45 7 (by kernel_rfl) d7
        simp [go_sem, Flow.ylP_value, Flow.ylP_skip, Flow.ylP_enter, Flow.ylP_panic, hc0, hf0, e38, e45, wkm]
        exact hK g wz hC (fun _ _ => rfl)
      · intro g L wz K ρ hc0 hf0 hF hO hU hcl hi hd hC hK
        have d8 : L 8 = true := hd ⟨8, .data⟩ (by simp) rfl
        have e46 : ρ (.tmp 46) = .int .i64 ((k : Int) + (m : Int)) := hF 46 8 (by kernel_rfl) d8
        simp [go_sem, Flow.ylP_value, Flow.ylP_skip, Flow.ylP_enter, Flow.ylP_panic, hc0, hf0, e46]
        exact hK g wz hC (fun _ _ => rfl)
      · intro g L ch wz h; exact h.elim
      · intro g L wz hL hC
        rw [hL 7 (by decide)] at hC
        simp only [Flow.putAll, rpV]
        simp [Act.put, wkm]
        go_wp2
        go_roundw
        case rel => exact ⟨k + m, hkm.out, .inl (by have := hpos.out; omega), by rw [Int.natCast_add], hC.1, hC.2⟩
        case measure => simp [intOf]; have := hpos.out; have := hkm.out; omega
    · obtain rfl : k = n := by omega
      have t0 : decide ((k : Int) < (k : Int)) = false := decide_eq_false (by omega)
      clear hlt'
      go_wp2
      go_ret
      exact ⟨rfl, hR.done, hb'⟩
end Go.Proofs.YtfefpcdgflgaeaaGreatDoor
end

section
namespace Go.Proofs.YtfefpcdgflgaeaaGreatDoor
set_option linter.unusedSimpArgs false
set_option linter.unusedVariables false
open Go.RowKit As Go.Maps
theorem secs_none (N : Nat) : secs N (fun _ => none) = List.replicate N (.string (zeros 32)) := by
 unfold secs safeAt
 apply List.ext_getElem?
 intro j
 by_cases hj : j < N
 ·rw [List.getElem?_map, List.getElem?_range hj, List.getElem?_replicate, if_pos hj]; rfl
 ·rw [List.getElem?_eq_none (by simp; omega), List.getElem?_eq_none (by simp; omega)]
set_option maxHeartbeats 1000000 in
set_option maxRecDepth 100000 in
theorem dnew_any (N : Nat) (h : N ≤ 140) (w : World) :
  Calls Tryz.prog 31 #[.int .i64 (N : Int)] w fun e w' => ∃ d R M, e = .returned (.tuple #[.pointer (some ⟨d, 0, none⟩), .nilIface]) ∧ PD w' d R M N N 0 (fun _ => none) (fun _ => none) ∧ (w.heap.size ≤ d ∧ w.heap.size ≤ R ∧ w.heap.size ≤ M) ∧ Below w.heap.size w w' := by
 have d0 : decide ((N : Int) < 0) = false := decide_eq_false (by omega)
 have d1 : decide (140 < (N : Int)) = false := decide_eq_false (by omega)
 have hmm := @run_makeMap Tryz.prog
 have hmk : (Instr.makeSlice 69 (.int .i64 32) (.int .i64 32)).run Tryz.prog w = .ok (.slice (some ⟨w.heap.size, 0, none⟩) 32 32) (w.alloc (.cells (madeCells #[.int .u8 0] 32) 5)) := run_make_row' (P := Tryz.prog) 69 5 (.int .u8 0) 1 Tryz.underlying69 dwInfo rfl .i64 .i64 32 (by omega) (by omega) w
 have b1 := below1 w (.cells (madeCells #[.int .u8 0] 32) 5)
 have hcv : (convert 69 9 (.slice (some ⟨w.heap.size, 0, none⟩) 32 32)).run Tryz.prog (w.alloc (.cells (madeCells #[.int .u8 0] 32) 5)) = .ok (.string (zeros 32)) (w.alloc (.cells (madeCells #[.int .u8 0] 32) 5)) := by
  have := string_of (P := Tryz.prog) _ 69 5 9 w.heap.size 32 (List.replicate 32 0) Tryz.underlying69 Tryz.underlying5 Tryz.underlying9 (bytes_made w 32)
  rw [List.length_replicate] at this
  exact this
 go_enter Tryz.func31, Tryz.ntmps31
 go_wp2_with fail
 have b2 := below1 (w.alloc (.cells (madeCells #[.int .u8 0] 32) 5)) (.cells #[.string (zeros 32)] 9)
 have b12 := b1.trans (b2.mono b1.size)
 have hc : ((w.alloc (.cells (madeCells #[.int .u8 0] 32) 5)).alloc (.cells #[.string (zeros 32)] 9)).cell? ⟨w.heap.size + 1, 0, none⟩ = some (.string (zeros 32)) := by
  rw [show w.heap.size + 1 = (w.alloc (.cells (madeCells #[.int .u8 0] 32) 5)).heap.size by simp, World.cell?_alloc_new]
  rfl
 clear hmk hcv b1 b2
 generalize (w.alloc (.cells (madeCells #[.int .u8 0] 32) 5)).alloc (.cells #[.string (zeros 32)] 9) = W2 at *
 refine (rep_any (w.heap.size + 1) N (zeros 32) W2 h hc).mono ?_
 rintro r w3 ⟨rfl, ho, hb3⟩
 have b3 := b12.trans (hb3.mono b12.size)
 have hw3 : W2.heap.size < w3.heap.size := row_lt ho
 have lW := b12.size
 have bM : Below w3.heap.size w3 (w3.alloc (.map #[] 0)) := below1 w3 (.map #[] 0)
 have iM := IM.made w3
 have bD := below1 (w3.alloc (.map #[] 0)) (.cells #[.slice (some ⟨W2.heap.size, 0, none⟩) N N, .map (some w3.heap.size)] 109)
 have b4 := b3.trans (bM.mono b3.size)
 have b5 := b4.trans (bD.mono b4.size)
 have hT : Turned (fun _ => False) w3 ((w3.alloc (.map #[] 0)).alloc (.cells #[.slice (some ⟨W2.heap.size, 0, none⟩) N N, .map (some w3.heap.size)] 109)) := (Turned.of_below bM).trans (.of_below bD)
 have hTD : Turned (fun _ => False) (w3.alloc (.map #[] 0)) ((w3.alloc (.map #[] 0)).alloc (.cells #[.slice (some ⟨W2.heap.size, 0, none⟩) N N, .map (some w3.heap.size)] 109)) := .of_below bD
 have hP : PD ((w3.alloc (.map #[] 0)).alloc (.cells #[.slice (some ⟨W2.heap.size, 0, none⟩) N N, .map (some w3.heap.size)] 109)) (w3.heap.size + 1) W2.heap.size w3.heap.size N N 0 (fun _ => none) (fun _ => none) := by
  refine ⟨?_, ?_, by rw [secs_none]; exact hT.own ho (fun _ _ => id), hTD.im iM id, .new h, by omega, by omega, by omega⟩
  ·rw [show w3.heap.size + 1 = (w3.alloc (.map #[] 0)).heap.size by simp, World.cell?_alloc_new]; rfl
  ·rw [show w3.heap.size + 1 = (w3.alloc (.map #[] 0)).heap.size by simp, World.cell?_alloc_new]; rfl
 clear hc ho hb3 b12 b3 b4 iM bM bD hT hTD
 go_wp2
 go_ret2
 exact ⟨_, _, _, rfl, hP, ⟨by omega, by omega, by omega⟩, b5⟩
end Go.Proofs.YtfefpcdgflgaeaaGreatDoor
end

section
namespace Go.Proofs.YtfefpcdgflgaeaaGreatDoor
set_option linter.unusedSimpArgs false
set_option linter.unusedVariables false
open Go.RowKit As Go.Maps
theorem w_in (x : Int) (n : Nat) (e : x = (n : Int)) (h : n ≤ 1000000000) : IntKind.i64.wrap x = (n : Int) ∧ wrap64 x = (n : Int) := by
 subst e
 exact ⟨IntWalk.i64_in _ (by omega), IntWalk.wrap64_in _ (by omega)⟩
/-- Cells of a thing that may be written. -/
def RC (w : World) (r : Nat) (vs : List Value) : Prop := ∀ i v, vs[i]? = some v → w.cell? ⟨r, i, none⟩ = some v ∧ w.frozen? ⟨r, i, none⟩ = false
section
variable {w w' : World} {r : Nat} {vs : List Value} {F : Nat → Prop}
theorem RC.turned (h : RC w r vs) (ht : Turned F w w') (hn : ¬ F r) : RC w' r vs := fun i v hv =>
 ⟨ht.cell (h i v hv).1 hn, (ht.frozen (a := ⟨r, i, none⟩) (cell_lt (h i v hv).1) hn).trans (h i v hv).2⟩
theorem RC.below (h : RC w r vs) (hb : Below w.heap.size w w') : RC w' r vs := h.turned (F := fun _ => False) (.of_below hb) id
theorem RC.set (h : RC w r vs) (k : Nat) (x : Value) (hk : k < vs.length) : RC (w.setCell ⟨r, k, none⟩ x) r (vs.set k x) := by
 intro i v hv
 rw [List.getElem?_set] at hv
 by_cases e : k = i
 ·subst e
  rw [if_pos rfl, if_pos hk] at hv
  injection hv with hv
  subst hv
  obtain ⟨h1, h2⟩ := h k _ (List.getElem?_eq_getElem hk)
  exact ⟨World.cell?_setCell_same _ _ _ h1, by rw [World.frozen?_setCell]; exact h2⟩
 ·rw [if_neg e] at hv
  obtain ⟨h1, h2⟩ := h i v hv
  refine ⟨?_, by rw [World.frozen?_setCell]; exact h2⟩
  rw [World.cell?_setCell_other _ _ _ _ (by intro q; injection q with _ q; exact e q)]
  exact h1
theorem RC.new (w : World) (vs : List Value) (t : TypeId) : RC (w.alloc (.cells vs.toArray t)) w.heap.size vs := by
 intro i v hv
 refine ⟨?_, by simp⟩
 rw [World.cell?_alloc_new]
 simpa using hv
end
/-- Bytes that came, and which. -/
def ByteRow (w : World) (A n : Nat) (f : CF) : Prop := ∀ i, i < n → w.cell? ⟨A, i, none⟩ = some (.int .u8 (((f i).getD 0).toNat : Int)) ∧ w.frozen? ⟨A, i, none⟩ = false
def BoolRow (w : World) (C n : Nat) (f : CF) : Prop := ∀ i, i < n → w.cell? ⟨C, i, none⟩ = some (.bool (f i).isSome) ∧ w.frozen? ⟨C, i, none⟩ = false
section
variable {w w' : World} {A n : Nat} {f : CF} {F : Nat → Prop}
theorem ByteRow.turned (h : ByteRow w A n f) (ht : Turned F w w') (hn : ¬ F A) : ByteRow w' A n f := fun i hi =>
 ⟨ht.cell (h i hi).1 hn, (ht.frozen (a := ⟨A, i, none⟩) (cell_lt (h i hi).1) hn).trans (h i hi).2⟩
theorem BoolRow.turned (h : BoolRow w A n f) (ht : Turned F w w') (hn : ¬ F A) : BoolRow w' A n f := fun i hi =>
 ⟨ht.cell (h i hi).1 hn, (ht.frozen (a := ⟨A, i, none⟩) (cell_lt (h i hi).1) hn).trans (h i hi).2⟩
theorem ByteRow.set (h : ByteRow w A n f) {k : Nat} (hk : k < n) (b : UInt8) : ByteRow (w.setCell ⟨A, k, none⟩ (.int .u8 (b.toNat : Int))) A n (bup f k b) := by
 intro i hi
 refine ⟨?_, by rw [World.frozen?_setCell]; exact (h i hi).2⟩
 by_cases e : i = k
 ·subst e
  rw [World.cell?_setCell_same _ _ _ (h i hi).1, bup_same]
  rfl
 ·rw [World.cell?_setCell_other _ _ _ _ (by intro q; injection q with _ q; exact e q.symm), (h i hi).1, bup_other _ _ e]
theorem BoolRow.set (h : BoolRow w A n f) {k : Nat} (hk : k < n) (b : UInt8) : BoolRow (w.setCell ⟨A, k, none⟩ (.bool true)) A n (bup f k b) := by
 intro i hi
 refine ⟨?_, by rw [World.frozen?_setCell]; exact (h i hi).2⟩
 by_cases e : i = k
 ·subst e
  rw [World.cell?_setCell_same _ _ _ (h i hi).1, bup_same]
  rfl
 ·rw [World.cell?_setCell_other _ _ _ _ (by intro q; injection q with _ q; exact e q.symm), (h i hi).1, bup_other _ _ e]
end
structure PLoc where
 r : Nat
 d : Nat
 R : Nat
 M : Nat
 c : Nat
 n : Nat
 A : Nat
 a : Nat
 C : Nat
 k : Nat
 dv : Value
 cv : Value
def PLoc.foot (L : PLoc) (i : Nat) : Prop := i = L.r ∨ i = L.d ∨ i = L.R ∨ i = L.M ∨ i = L.A ∨ i = L.C
def recVs (d nm tot : Nat) (dv cv : Value) (sv sf mks : Nat) : List Value := [.pointer (some ⟨d, 0, none⟩), .int .u32 (nm : Int), .int .i64 (tot : Int), dv, cv, .int .i64 (sv : Int), .int .i64 (sf : Int), .int .i64 (mks : Int)]
/-- The rows of what came, where something did. -/
structure PRows (w : World) (L : PLoc) (t : Nat) (f : CF) : Prop where
 dv : L.dv = .slice (some ⟨L.A, 0, none⟩) t L.a
 cv : L.cv = .slice (some ⟨L.C, 0, none⟩) t L.k
 la : t ≤ L.a
 lk : t ≤ L.k
 by_ : ByteRow w L.A t f
 bo : BoolRow w L.C t f
 ac : L.A ≠ L.C
 ar : L.A ≠ L.r
 ad : L.A ≠ L.d
 aR : L.A ≠ L.R
 aM : L.A ≠ L.M
 cr : L.C ≠ L.r
 cd : L.C ≠ L.d
 cR : L.C ≠ L.R
 cM : L.C ≠ L.M
structure PR (w : World) (K : Nat) (L : PLoc) (s : Rst) : Prop where
 cells : RC w L.r (recVs L.d s.nm s.tot L.dv L.cv s.sv s.sf s.mks)
 disk : PD w L.d L.R L.M 140 L.c L.n s.S s.X
 rows : 0 < s.tot → PRows w L s.tot s.came
 rd : L.r ≠ L.d
 rR : L.r ≠ L.R
 rM : L.r ≠ L.M
 low : ∀ i, L.foot i → i < w.heap.size
 fit : RFit K s
 cnt : L.n ≤ 200 * K
section
variable {w w' : World} {K : Nat} {L : PLoc} {s : Rst} {F : Nat → Prop}
theorem PRows.turned {t : Nat} {f : CF} (h : PRows w L t f) (ht : Turned F w w') (h1 : ¬ F L.A) (h2 : ¬ F L.C) : PRows w' L t f :=
 ⟨h.dv, h.cv, h.la, h.lk, h.by_.turned ht h1, h.bo.turned ht h2, h.ac, h.ar, h.ad, h.aR, h.aM, h.cr, h.cd, h.cR, h.cM⟩
theorem PR.stays (h : PR w K L s) (ht : Turned F w w') (hn : ∀ i, L.foot i → ¬ F i) : PR w' K L s :=
 ⟨h.cells.turned ht (hn _ (.inl rfl)), h.disk.stays ht (hn _ (.inr (.inl rfl))) (hn _ (.inr (.inr (.inl rfl)))) (hn _ (.inr (.inr (.inr (.inl rfl))))), fun q => (h.rows q).turned ht (hn _ (.inr (.inr (.inr (.inr (.inl rfl)))))) (hn _ (.inr (.inr (.inr (.inr (.inr rfl)))))), h.rd, h.rR, h.rM, fun i hi => Nat.lt_of_lt_of_le (h.low i hi) ht.size, h.fit, h.cnt⟩
theorem PR.below (h : PR w K L s) (hb : Below w.heap.size w w') : PR w' K L s := h.stays (F := fun _ => False) (.of_below hb) (fun _ _ => id)
theorem PR.drew (h : PR w K L s) : PR w.drew K L s := h.below (Below.refl _ _).drew
theorem PR.cell (h : PR w K L s) (i : Nat) {v : Value} (hv : (recVs L.d s.nm s.tot L.dv L.cv s.sv s.sf s.mks)[i]? = some v) : w.cell? ⟨L.r, i, none⟩ = some v := (h.cells i v hv).1
theorem PR.free (h : PR w K L s) (i : Nat) {v : Value} (hv : (recVs L.d s.nm s.tot L.dv L.cv s.sv s.sf s.mks)[i]? = some v) : w.frozen? ⟨L.r, i, none⟩ = false := (h.cells i v hv).2
theorem PR.more (h : PR w K L s) {K' : Nat} (hk : K ≤ K') (hK : K' ≤ 1000000) : PR w K' L s := ⟨h.cells, h.disk, h.rows, h.rd, h.rR, h.rM, h.low, h.fit.mono hk hK, by have := h.cnt; omega⟩
theorem foot_R {L : PLoc} {i : Nat} (h : PFoot L.R L.M i) : L.foot i := by
 rcases h with h | h
 ·exact .inr (.inr (.inl h))
 ·exact .inr (.inr (.inr (.inl h)))
theorem PR.off (h : PR w K L s) : ¬ PFoot L.R L.M L.r ∧ (0 < s.tot → ¬ PFoot L.R L.M L.A ∧ ¬ PFoot L.R L.M L.C) :=
 ⟨fun q => (by rcases q with q | q; exact h.rR q; exact h.rM q), fun q => ⟨fun u => (by rcases u with u | u; exact (h.rows q).aR u; exact (h.rows q).aM u), fun u => (by rcases u with u | u; exact (h.rows q).cR u; exact (h.rows q).cM u)⟩⟩
/-- The disk turns. -/
theorem PR.disked (h : PR w K L s) {n : Nat} {S X : DF} (hd : PD w' L.d L.R L.M 140 L.c n S X) (ht : Turned (PFoot L.R L.M) w w') (hf : RFit K { s with S := S, X := X }) (hn : n ≤ 200 * K) : PR w' K { L with n := n } { s with S := S, X := X } :=
 ⟨h.cells.turned ht h.off.1, hd, fun q => by
  have hr := h.rows q
  have h1 := hr.turned ht (h.off.2 q).1 (h.off.2 q).2
  exact ⟨h1.dv, h1.cv, h1.la, h1.lk, h1.by_, h1.bo, h1.ac, h1.ar, h1.ad, h1.aR, h1.aM, h1.cr, h1.cd, h1.cR, h1.cM⟩, h.rd, h.rR, h.rM, fun i hi => Nat.lt_of_lt_of_le (h.low i hi) ht.size, hf, hn⟩
/-- A number of the receiver turns. -/
theorem PR.stored (h : PR w K L s) (i : Nat) (x : Value) (s' : Rst) (h1 : s'.S = s.S) (h2 : s'.X = s.X) (h3 : s'.tot = s.tot) (h4 : s'.came = s.came) (hv : (recVs L.d s.nm s.tot L.dv L.cv s.sv s.sf s.mks).set i x = recVs L.d s'.nm s'.tot L.dv L.cv s'.sv s'.sf s'.mks) (hi : i < 8) (hf : RFit K s') : PR (w.setCell ⟨L.r, i, none⟩ x) K L s' := by
 have ht : Turned (fun j => j = L.r) w (w.setCell ⟨L.r, i, none⟩ x) := .set w i _ rfl
 refine ⟨?_, ?_, fun q => ?_, h.rd, h.rR, h.rM, fun j hj => Nat.lt_of_lt_of_le (h.low j hj) ht.size, hf, h.cnt⟩
 ·rw [← hv]
  exact h.cells.set i x hi
 ·rw [h1, h2]
  exact h.disk.stays ht (Ne.symm h.rd) (Ne.symm h.rR) (Ne.symm h.rM)
 ·rw [h3] at q ⊢
  rw [h4]
  exact (h.rows q).turned ht (h.rows q).ar (h.rows q).cr
end
end Go.Proofs.YtfefpcdgflgaeaaGreatDoor
end

section
namespace Go.Proofs.YtfefpcdgflgaeaaGreatDoor
set_option linter.unusedSimpArgs false
set_option linter.unusedVariables false
open Go.RowKit As Go.Maps
set_option maxHeartbeats 1000000 in
set_option maxRecDepth 100000 in
theorem poffer_any {w : World} {K : Nat} {L : PLoc} {s : Rst} (h : PR w K L s) :
  Calls Tryz.prog 21 #[.pointer (some ⟨L.r, 0, none⟩)] w fun e w' => e = .returned (.int .i64 (s.offer : Int)) ∧ w = w' := by
 have c2 := h.cell 2 rfl
 have c4 := h.cell 4 rfl
 have H4 := Lib.hid h.fit.tot
 have HR := Lib.hid h.rows
 clear h
 go_enter Tryz.func21, Tryz.ntmps21
 go_wp2
 go_loop [3] (fun v => ∃ k : Nat, k ≤ s.tot ∧ v = .int .i64 (k : Int) ∧ Hid (∀ i, i < k → (s.came i).isSome = true)) (fun v => s.tot - (intOf v).toNat)
 case atStart => exact ⟨0, Nat.zero_le _, rfl, Lib.hid fun i hi => absurd hi (Nat.not_lt_zero _)⟩
 case round =>
  obtain ⟨k, hk, rfl, hall⟩ := hrel
  by_cases hlt : k < s.tot
  ·have hr := HR.out (by omega)
   have t0 : decide ((k : Int) < (s.tot : Int)) = true := decide_eq_true (by omega)
   have t0' : decide (k < s.tot) = true := decide_eq_true hlt
   have cK := (hr.bo k hlt).1
   have i0 : (0 : Int) ≤ (k : Int) := by omega
   have i1 : (k : Int) < (s.tot : Int) := by omega
   rw [hr.cv] at c4
   have wk : IntKind.i64.wrap ((k : Int) + 1) = ((k + 1 : Nat) : Int) := IntWalk.i64_in _ (by have := H4.out; omega)
   clear hr
   cases hx : (s.came k).isSome with
   | true =>
    have hn : Hid (∀ i, i < k + 1 → (s.came i).isSome = true) := Lib.hid fun i hi => by
     rcases Nat.lt_or_ge i k with q | q
     ·exact hall.out i q
     ·obtain rfl : i = k := by omega
      exact hx
    rw [hx] at cK
    clear hx
    go_wp2
    go_round
    case rel => exact ⟨k + 1, hlt, by go_num, hn⟩
    case measure => simp [intOf]; omega
   | false =>
    have ho := Lib.hid (offer_is hk hall.out (.inr hx))
    rw [hx] at cK
    clear hx
    go_wp2
    go_ret
    exact ⟨retI (congrArg _ ho.out.symm), rfl⟩
  ·obtain rfl : k = s.tot := by omega
   have t0 : decide ((s.tot : Int) < (s.tot : Int)) = false := decide_eq_false (by omega)
   have t0' : decide (s.tot < s.tot) = false := decide_eq_false hlt
   have ho := Lib.hid (offer_is (Nat.le_refl _) hall.out (.inl rfl))
   clear hlt
   go_wp2
   go_ret
   exact ⟨retI (congrArg _ ho.out.symm), rfl⟩
theorem psafe_any {w : World} {K : Nat} {L : PLoc} {s : Rst} (h : PR w K L s) :
  Calls Tryz.prog 23 #[.pointer (some ⟨L.r, 0, none⟩)] w fun e w' => e = .returned (.int .i64 (s.sf : Int)) ∧ w = w' := by
 have c6 := h.cell 6 rfl
 clear h
 go_enter Tryz.func23, Tryz.ntmps23
 go_wp2
 go_ret
 exact ⟨rfl, rfl⟩
theorem PR.sync {w w' : World} {K : Nat} {L : PLoc} {s : Rst} {S X : DF} {nm tot sv sf mks : Nat} (h : PR w K L s) {n : Nat} (hn : n ≤ 200 * K) (hd : PD w' L.d L.R L.M 140 L.c n S X) (ht : Turned (PFoot L.R L.M) w w') :
  RC w' L.r (recVs L.d s.nm s.tot L.dv L.cv s.sv s.sf s.mks) ∧ (0 < s.tot → PRows w' { L with n := n } s.tot s.came) ∧ (∀ i, L.foot i → i < w'.heap.size) := by
 refine ⟨h.cells.turned ht (fun q => ?_), fun q => ?_, fun i hi => Nat.lt_of_lt_of_le (h.low i hi) ht.size⟩
 ·rcases q with q | q
  ·exact h.rR q
  ·exact h.rM q
 ·have hr := h.rows q
  have h1 := hr.turned ht (fun q => by rcases q with q | q; exact hr.aR q; exact hr.aM q) (fun q => by rcases q with q | q; exact hr.cR q; exact hr.cM q)
  exact ⟨h1.dv, h1.cv, h1.la, h1.lk, h1.by_, h1.bo, h1.ac, h1.ar, h1.ad, h1.aR, h1.aM, h1.cr, h1.cd, h1.cR, h1.cM⟩
theorem foot_r {L : PLoc} {i : Nat} (h : PFoot L.R L.M i) : L.foot i := by
 rcases h with h | h
 ·exact .inr (.inr (.inl h))
 ·exact .inr (.inr (.inr (.inl h)))
set_option maxHeartbeats 1000000 in
theorem pflush_any {w : World} {K : Nat} {L : PLoc} {s : Rst} (h : PR w K L s) :
  Calls Tryz.prog 13 #[.pointer (some ⟨L.r, 0, none⟩)] w fun e w' => e = .returned (.tuple #[]) ∧ PR w' K L s.flush ∧ Turned L.foot w w' := by
 have c0 := h.cell 0 rfl
 go_enter Tryz.func13, Tryz.ntmps13
 go_wp2_with fail
 refine (dsync_any h.disk).mono ?_
 rintro e w1 ⟨rfl, hd, ht⟩
 obtain ⟨q1, q2, q3⟩ := h.sync (nm := 0) (tot := 0) (sv := 0) (sf := 0) (mks := 0) h.cnt hd ht
 have c5 := (q1 5 _ rfl).1
 have c6 := (q1 6 _ rfl).1
 have f6 := (q1 6 _ rfl).2
 have HF := Lib.hid (And.intro h.fit (And.intro h.cnt (And.intro h.rd (And.intro h.rR h.rM))))
 clear h c0
 go_wp2
 go_end0
 have hset : Turned L.foot w1 (w1.setCell ⟨L.r, 6, none⟩ (.int .i64 (s.sv : Int))) := .set w1 6 _ (.inl rfl)
 have hset' : Turned (fun i => i = L.r) w1 (w1.setCell ⟨L.r, 6, none⟩ (.int .i64 (s.sv : Int))) := .set w1 6 _ rfl
 obtain ⟨hf, hc, hrd, hrR, hrM⟩ := HF.out
 refine ⟨rfl, ⟨q1.set 6 (.int .i64 (s.sv : Int)) (by simp [recVs]), hd.stays hset' (Ne.symm hrd) (Ne.symm hrR) (Ne.symm hrM), fun q => ?_, hrd, hrR, hrM, fun i hi => Nat.lt_of_lt_of_le (q3 i hi) hset.size, hf.flush, hc⟩, (ht.mono fun i => foot_r).trans hset⟩
 have hr := q2 q
 exact hr.turned hset' hr.ar hr.cr
end Go.Proofs.YtfefpcdgflgaeaaGreatDoor
end

section
namespace Go.Proofs.YtfefpcdgflgaeaaGreatDoor.Crc
open Go.RowKit
theorem retI {k : IntKind} {a b : Int} (h : a = b) : Ending.returned (.int k a) = .returned (.int k b) := by rw [h]
theorem valI {k : IntKind} {a b : Int} (h : a = b) : Value.int k a = .int k b := by rw [h]

theorem and_one (m : Nat) (h : m < 4294967296) : bits BinOp.and IntKind.u32 (m : Int) 1 = ((m % 2 : Nat) : Int) := by
 have e := u32_and_nat m 1 h (by omega)
 rw [nat_mask1] at e
 exact e
theorem xor_poly (m : Nat) (h : m < 4294967296) : bits BinOp.xor IntKind.u32 ((m : Int) / 2) 2197175160 = ((m / 2 ^^^ poly : Nat) : Int) := by
 have e := u32_xor_nat (m / 2) poly (by omega) poly_lt
 have e1 : ((m / 2 : Nat) : Int) = (m : Int) / 2 := by omega
 rw [e1] at e
 exact e
theorem stp_odd (m : Nat) (h : m < 4294967296) (t : (bits BinOp.and IntKind.u32 (m : Int) 1 == 1) = true) :
  bits BinOp.xor IntKind.u32 ((m : Int) / 2) 2197175160 = (stp m : Int) := by
 rw [and_one m h] at t
 have t' : m % 2 = 1 := by
  have := beq_iff_eq.1 t
  omega
 rw [xor_poly m h]
 unfold stp
 rw [if_pos t']
theorem stp_even (m : Nat) (h : m < 4294967296) (t : (bits BinOp.and IntKind.u32 (m : Int) 1 == 1) = false) :
  (m : Int) / 2 = (stp m : Int) := by
 rw [and_one m h] at t
 have t' : m % 2 ≠ 1 := by
  have := beq_eq_false_iff_ne.1 t
  omega
 unfold stp
 rw [if_neg t']
 omega

theorem one_any (n : Nat) (w : World) (h : n < 4294967296) :
  Calls Tryz.prog 97 #[.int .u32 (n : Int)] w fun e w' => e = .returned (.int .u32 (one n : Int)) ∧ w = w' := by
 go_enter Tryz.func97, Tryz.ntmps97
 go_wp2
 go_loop [0, 3] (fun v i => ∃ k : Nat, k ≤ 8 ∧ i = .int .i64 k ∧ v = .int .u32 (iter k n : Int)) (fun _ i => 8 - (intOf i).toNat)
 case atStart => exact ⟨0, by omega, rfl, rfl⟩
 case round =>
  obtain ⟨k, hk, rfl, rfl⟩ := hrel
  have hb := iter_lt k h
  have hs := Lib.hid (iter_succ k n)
  go_wp2
  ·go_round
   case rel => exact ⟨k + 1, by omega, by go_num, valI (by rw [hs.out]; exact stp_odd _ hb (by assumption))⟩
   case measure => simp [intOf]; omega
  ·go_round
   case rel => exact ⟨k + 1, by omega, by go_num, valI (by rw [hs.out]; exact stp_even _ hb (by assumption))⟩
   case measure => simp [intOf]; omega
  ·go_ret
   obtain rfl : k = 8 := by omega
   exact ⟨rfl, rfl⟩

/- Complements. -/
theorem not_u32 (m : Nat) (h : m < 4294967296) : bits BinOp.xor IntKind.u32 IntKind.u32.max (m : Int) = ((4294967295 - m : Nat) : Int) := by
 show IntKind.u32.wrap ((BitVec.ofInt 32 IntKind.u32.max ^^^ BitVec.ofInt 32 (m : Int)).toNat : Int) = _
 have h1 : BitVec.ofInt 32 IntKind.u32.max = BitVec.allOnes 32 := by decide
 rw [h1, BitVec.allOnes_xor, BitVec.toNat_not, ofInt_u32 m h, IntKind.wrap_u32']
 omega
theorem byte_at (s : ByteArray) (k : Nat) (h : k < s.size) : (s.data.toList.getD k 0) = s[k] := by
 have h' : k < s.data.toList.length := by simpa using h
 simp only [List.getD, List.getElem?_eq_getElem h', Option.getD_some]
 rfl
theorem byte_in (n : Nat) (b : UInt8) (h : n < 4294967296) :
  bits BinOp.xor IntKind.u32 (bits BinOp.and IntKind.u32 (n : Int) 255) ((b.toNat : Int) % 4294967296) = ((n % 256 ^^^ b.toNat : Nat) : Int) := by
 have hb := b.toNat_lt
 have e := u32_and_nat n 255 h (by omega)
 rw [nat_mask8] at e
 have e1 : (b.toNat : Int) % 4294967296 = (b.toNat : Int) := by omega
 rw [e1]
 have e2 : bits BinOp.and IntKind.u32 (n : Int) 255 = ((n % 256 : Nat) : Int) := e
 rw [e2]
 exact u32_xor_nat _ _ (by omega) (by omega)
theorem byte_in_lt (n : Nat) (b : UInt8) : n % 256 ^^^ b.toNat < 4294967296 := by
 have := Nat.xor_lt_two_pow (n := 8) (x := n % 256) (y := b.toNat) (by omega) b.toNat_lt
 omega
theorem byte_out (n : Nat) (b : UInt8) (h : n < 4294967296) :
  bits BinOp.xor IntKind.u32 (one (n % 256 ^^^ b.toNat) : Int) ((n : Int) / 256) = (byteStep n b.toNat : Int) := by
 have e1 : (n : Int) / 256 = ((n / 256 : Nat) : Int) := by omega
 rw [e1]
 exact u32_xor_nat _ _ (iter_lt 8 (byte_in_lt n b)) (by omega)
theorem take_snoc (s : ByteArray) (k : Nat) (h : k < s.size) : s.data.toList.take (k + 1) = s.data.toList.take k ++ [s[k]] := by
 rw [List.take_succ_eq_append_getElem (by simpa using h)]; rfl
theorem run_step (n : Nat) (s : ByteArray) (k : Nat) (h : k < s.size) : run n (s.data.toList.take (k + 1)) = byteStep (run n (s.data.toList.take k)) s[k].toNat := by
 rw [take_snoc s k h, run_snoc]

def more (n : Nat) (l : List UInt8) : Nat := 4294967295 - run (4294967295 - n) l

theorem more_any (n : Nat) (s : ByteArray) (w : World) (hn : n < 4294967296) (hs : s.size ≤ maxLen) :
  Calls Tryz.prog 78 #[.int .u32 (n : Int), .string s] w fun e w' => e = .returned (.int .u32 (more n s.data.toList : Int)) ∧ w = w' := by
 unfold maxLen at hs
 go_enter Tryz.func78, Tryz.ntmps78
 go_wp2
 go_loop [0, 5, 10] (fun v _ i => ∃ k : Nat, k ≤ s.size ∧ i = .int .i64 k ∧ v = .int .u32 (run (4294967295 - n) (s.data.toList.take k) : Int)) (fun _ _ i => s.size - (intOf i).toNat)
 case atStart => exact ⟨0, by omega, rfl, valI (not_u32 n hn)⟩
 case round =>
  obtain ⟨k, hk, rfl, rfl⟩ := hrel
  have hb := run_lt (n := 4294967295 - n) (by omega) (s.data.toList.take k)
  by_cases hlt : k < s.size
  ·have hstep := Lib.hid (run_step (4294967295 - n) s k hlt)
   have hout := Lib.hid (byte_out (run (4294967295 - n) (s.data.toList.take k)) s[k] hb)
   have hin := Lib.hid (byte_in (run (4294967295 - n) (s.data.toList.take k)) s[k] hb)
   go_wp2_with fail
   rw [hin.out]
   refine (one_any _ _ (byte_in_lt _ _)).mono ?_
   rintro e w' ⟨rfl, rfl⟩
   go_wp2_with fail
   go_round
   case rel => exact ⟨k + 1, by omega, by go_num, valI (by rw [hstep.out]; exact hout.out)⟩
   case measure => simp [intOf]; omega
  ·obtain rfl : k = s.size := by omega
   go_wp2_with fail
   go_ret
   have e : s.data.toList.take s.size = s.data.toList := List.take_of_length_le (by simp)
   rw [e] at hb ⊢
   exact ⟨retI (not_u32 _ hb), rfl⟩
theorem bit_at (n : Nat) (b : UInt8) (j : Nat) (h : n < 4294967296) :
  bits BinOp.xor IntKind.u32 (bits BinOp.and IntKind.u32 (n : Int) 1) (bits BinOp.and IntKind.u32 ((b.toNat : Int) / 2 ^ j % 4294967296) 1) = ((n % 2 ^^^ (b.toNat / 2 ^ j % 2) : Nat) : Int) := by
 have hb := b.toNat_lt
 have hd : b.toNat / 2 ^ j ≤ b.toNat := Nat.div_le_self _ _
 have e1 : (b.toNat : Int) / 2 ^ j % 4294967296 = ((b.toNat / 2 ^ j : Nat) : Int) := by
  have e0 : ((b.toNat / 2 ^ j : Nat) : Int) = (b.toNat : Int) / 2 ^ j := by simp
  rw [← e0]
  generalize b.toNat / 2 ^ j = q at hd ⊢
  omega
 rw [e1, and_one n h, and_one _ (by omega)]
 exact u32_xor_nat _ _ (by omega) (by omega)
theorem carry_yes (n : Nat) (s : ByteArray) (k : Nat) (h : n < 4294967296) (hlt : k < 8 * s.size) (h8 : k / 8 < s.size)
  (t : (bits BinOp.xor IntKind.u32 (bits BinOp.and IntKind.u32 (carried n s.data.toList k : Int) 1) (bits BinOp.and IntKind.u32 ((s[k / 8].toNat : Int) / 2 ^ (k % 8) % 4294967296) 1) == 1) = true) :
  bits BinOp.xor IntKind.u32 ((carried n s.data.toList k : Int) / 2) 2197175160 = (carried n s.data.toList (k + 1) : Int) := by
 have hc := carried_lt h s.data.toList k
 rw [bit_at _ _ _ hc] at t
 have t' := beq_iff_eq.1 t
 rw [xor_poly _ hc, carried_succ n _ k (by simpa using hlt), bitStep_ref _ _ (by omega), byte_at s _ h8, if_pos (by omega)]
theorem carry_no (n : Nat) (s : ByteArray) (k : Nat) (h : n < 4294967296) (hlt : k < 8 * s.size) (h8 : k / 8 < s.size)
  (t : (bits BinOp.xor IntKind.u32 (bits BinOp.and IntKind.u32 (carried n s.data.toList k : Int) 1) (bits BinOp.and IntKind.u32 ((s[k / 8].toNat : Int) / 2 ^ (k % 8) % 4294967296) 1) == 1) = false) :
  (carried n s.data.toList k : Int) / 2 = (carried n s.data.toList (k + 1) : Int) := by
 have hc := carried_lt h s.data.toList k
 rw [bit_at _ _ _ hc] at t
 have t' := beq_eq_false_iff_ne.1 t
 rw [carried_succ n _ k (by simpa using hlt), bitStep_ref _ _ (by omega), byte_at s _ h8, if_neg (by omega)]
 omega
theorem carry_any (n : Nat) (s : ByteArray) (w : World) (h : n < 4294967296) (hs : s.size ≤ 1000000) :
  Calls Tryz.prog 77 #[.int .u32 (n : Int), .string s] w fun e w' => e = .returned (.int .u32 (run n s.data.toList : Int)) ∧ w = w' := by
 go_enter Tryz.func77, Tryz.ntmps77
 go_wp2
 go_loop [0, 5] (fun v i => ∃ k : Nat, k ≤ 8 * s.size ∧ i = .int .i64 k ∧ v = .int .u32 (carried n s.data.toList k : Int)) (fun _ i => 8 * s.size - (intOf i).toNat)
 case atStart => exact ⟨0, by omega, rfl, valI (by rw [carried_zero])⟩
 case round =>
  obtain ⟨k, hk, rfl, rfl⟩ := hrel
  have hb := carried_lt h s.data.toList k
  by_cases hlt : k < 8 * s.size
  ·have h8 : k / 8 < s.size := by omega
   go_wp2_with fail
   ·go_round
    case rel => exact ⟨k + 1, by omega, by go_num, valI (carry_yes n s k h hlt h8 (by assumption))⟩
    case measure => simp [intOf]; omega
   ·go_round
    case rel => exact ⟨k + 1, by omega, by go_num, valI (carry_no n s k h hlt h8 (by assumption))⟩
    case measure => simp [intOf]; omega
  ·obtain rfl : k = 8 * s.size := by omega
   go_wp2_with fail
   go_ret
   have e : carried n s.data.toList (8 * s.size) = run n s.data.toList := by
    rw [← carried_end n s.data.toList]; simp
   exact ⟨retI (by rw [e]), rfl⟩
theorem rsum_any (s : ByteArray) (w : World) (hs : s.size ≤ 1000000) :
  Calls Tryz.prog 51 #[.string s] w fun e w' => e = .returned (.int .u32 (more 0 s.data.toList : Int)) ∧ w = w' := by
 go_enter Tryz.func51, Tryz.ntmps51
 go_wp2_with fail
 refine (carry_any 4294967295 s _ (by omega) hs).mono ?_
 rintro e w' ⟨rfl, rfl⟩
 go_wp2_with fail
 go_ret
 exact ⟨retI (not_u32 _ (run_lt (by omega) _)), rfl⟩
theorem sum_any (s : ByteArray) (w : World) (hs : s.size ≤ maxLen) :
  Calls Tryz.prog 52 #[.string s] w fun e w' => e = .returned (.int .u32 (more 0 s.data.toList : Int)) ∧ w = w' := by
 go_enter Tryz.func52, Tryz.ntmps52
 go_wp2_with fail
 refine (more_any 0 s _ (by omega) hs).mono ?_
 rintro e w' ⟨rfl, rfl⟩
 go_wp2_with fail
 go_ret
 exact ⟨rfl, rfl⟩

end Go.Proofs.YtfefpcdgflgaeaaGreatDoor.Crc
end
