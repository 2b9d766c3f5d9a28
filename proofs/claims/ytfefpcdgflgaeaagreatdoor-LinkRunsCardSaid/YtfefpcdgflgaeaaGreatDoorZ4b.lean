/- slices.Repeat of one text.

The program's new disk. -/
import Derived.Test.YtfefpcdgflgaeaaGreatDoorZ4
import Derived.Test.YtfefpcdgflgaeaaGreatDoorShelfDisk
import Derived.OwnWalk
section
namespace Go.Proofs.YtfefpcdgflgaeaaGreatDoor
set_option linter.unusedSimpArgs false
set_option linter.unusedVariables false
open Go.RowKit As
theorem strInfoD : (Tryz.prog.info? 9).map (fun i => (i.zero, i.size, i.bytes)) = some (some (.string ⟨#[]⟩), 1, 16) := by kernel_rfl
/-- n texts lie in block g; the first k of them are z. -/
def RepAt (w : World) (g n k : Nat) (z : ByteArray) : Prop := ∃ xs : List Value, w.ownsRow g 9 1 (.slice (some ⟨g, 0, none⟩) n n) n xs ∧ ∀ i, i < k → xs[i]? = some (.string z)
theorem RepAt.set {w : World} {g n k : Nat} {z : ByteArray} (h : RepAt w g n k z) (hk : k < n) : RepAt (w.setCell ⟨g, k, none⟩ (.string z)) g n (k + 1) z := by
 obtain ⟨xs, ho, hx⟩ := h
 refine ⟨xs.set k (.string z), (ho.stored k (.string z)).1, fun i hi => ?_⟩
 rw [List.getElem?_set]
 by_cases e : k = i
 ·subst e
  rw [if_pos rfl, if_pos (by have := ho.1; omega)]
 ·rw [if_neg e]; exact hx i (by omega)
theorem RepAt.sets {g n : Nat} {z : ByteArray} : ∀ (m k : Nat) {w : World}, RepAt w g n k z → k + m ≤ n → RepAt (w.setCells g k (List.replicate m (.string z))) g n (k + m) z
 | 0, k, w, h, _ => h
 | m + 1, k, w, h, hk => by
  rw [List.replicate_succ, World.setCells, show k + (m + 1) = (k + 1) + m by omega]
  exact RepAt.sets m (k + 1) (h.set (by omega)) (by omega)
theorem RepAt.done {w : World} {g n : Nat} {z : ByteArray} (h : RepAt w g n n z) : w.ownsRow g 9 1 (.slice (some ⟨g, 0, none⟩) n n) n (List.replicate n (.string z)) := by
 obtain ⟨xs, ho, hx⟩ := h
 have e : xs = List.replicate n (.string z) := by
  apply List.ext_getElem?
  intro i
  by_cases hi : i < n
  ·rw [hx i hi, List.getElem?_replicate, if_pos hi]
  ·rw [List.getElem?_eq_none (by have := ho.1; omega), List.getElem?_eq_none (by simp; omega)]
 rw [← e]; exact ho
def rpV (G n k m : Nat) (g : Unit) : Nat → Value
 | 0 => .int .i64 (k : Int)
 | 1 => .slice (some ⟨G, 0, none⟩) n n
 | 2 => .int .i64 (k : Int)
 | 3 => .slice (some ⟨G, k, none⟩) (n - k) (n - k)
 | 4 => .slice (some ⟨G, 0, none⟩) n n
 | 5 => .int .i64 (k : Int)
 | 6 => .slice (some ⟨G, 0, none⟩) k n
 | 7 => .int .i64 (m : Int)
 | 8 => .int .i64 ((k : Int) + (m : Int))
 | 9 => .int .i64 ((k : Int) + (m : Int))
 | _ => undef
theorem setCells_below' {N B : Nat} {a : World} (hB : N ≤ B) : ∀ (vs : List Value) (o : Nat) {w : World}, Below N a w → Below N a (w.setCells B o vs)
 | [], _, _, h => h
 | v :: r, o, w, h => setCells_below' hB r (o + 1) (h.setCell (p := ⟨B, o, none⟩) hB v)
theorem repSize : (Tryz.prog.info? 9).map (·.size) = some 1 := by kernel_rfl
theorem rep_new (w : World) (n : Nat) (z : ByteArray) (hn : n ≤ maxLen) : RepAt (w.alloc (.cells (madeCells #[.string ⟨#[]⟩] n) 9)) w.heap.size n 0 z :=
 ⟨(madeCells #[.string ⟨#[]⟩] n).toList, ⟨by simp [madeCells], .inr ⟨w.heap.size, n, madeCells #[.string ⟨#[]⟩] n, rfl, Nat.le_refl _, (Go.MapKept.heap_alloc w _).1, Nat.le_refl _, hn, by simp [madeCells], by rw [Nat.mul_one]; exact List.take_of_length_le (by simp [madeCells])⟩⟩, fun i hi => absurd hi (Nat.not_lt_zero i)⟩
theorem rep_src {w : World} {g n k m : Nat} {z : ByteArray} {xs : List Value} (ho : w.ownsRow g 9 1 (.slice (some ⟨g, 0, none⟩) n n) n xs) (hx : ∀ i, i < k → xs[i]? = some (.string z)) (hm : m ≤ k) : ∀ j v, (List.replicate m (.string z : Value))[j]? = some v → w.cell? ((⟨g, 0, none⟩ : Addr).add j) = some v := by
 intro j v hv
 have e : (⟨g, 0, none⟩ : Addr).add j = ⟨g, j, none⟩ := by unfold Addr.add; split <;> simp_all
 have hj : j < m := by have := (List.getElem?_eq_some_iff.1 hv).1; simpa using this
 rw [List.getElem?_replicate, if_pos hj] at hv
 rw [e, ho.cellAt j (by have h1 := (List.getElem?_eq_some_iff.1 (hx j (by omega))).1; have := ho.1; omega), hx j (by omega), hv]
theorem rep_isS {w : World} {g n k m : Nat} {z : ByteArray} {xs : List Value} (ho : w.ownsRow g 9 1 (.slice (some ⟨g, 0, none⟩) n n) n xs) (hkm : k + m ≤ n) : ∀ j, j < (List.replicate m (.string z : Value)).length → (w.cell? ⟨g, k + j, none⟩).isSome = true := by
 intro j hj
 rw [List.length_replicate] at hj
 rw [ho.cellAt (k + j) (by omega), List.getElem?_eq_getElem (by have := ho.1; omega)]
 rfl
theorem rep_first (w1 : World) (n : Nat) (z : ByteArray) (b : Nat) (hb : (w1.alloc (.cells (madeCells #[.string ⟨#[]⟩] n) 9)).cell? ⟨b, 0, none⟩ = some (.string z)) (h : RepAt (w1.alloc (.cells (madeCells #[.string ⟨#[]⟩] n) 9)) w1.heap.size n 0 z) :
  ∃ (k : Nat) (W : World), (Builtin.copy_ #[59, 59] 3 #[.slice (some ⟨w1.heap.size, 0, none⟩) n n, .slice (some ⟨b, 0, none⟩) 1 1]).run Tryz.prog (w1.alloc (.cells (madeCells #[.string ⟨#[]⟩] n) 9)) = .ok (.int .i64 (k : Int)) W ∧ (k ≤ n ∧ (0 < k ∨ n = 0)) ∧ RepAt W w1.heap.size n k z ∧ Below w1.heap.size (w1.alloc (.cells (madeCells #[.string ⟨#[]⟩] n) 9)) W := by
 by_cases h0 : n = 0
 ·subst h0
  exact ⟨0, _, run_copy_none _ _ _ _ 9 _ _ _ _ _ _ Tryz.underlying59 repSize rfl, ⟨Nat.le_refl _, .inr rfl⟩, h, Below.refl _ _⟩
 ·obtain ⟨xs, ho, hx⟩ := h
  have hcp := run_copy_cells (P := Tryz.prog) (w1.alloc (.cells (madeCells #[.string ⟨#[]⟩] n) 9)) 59 59 3 9 w1.heap.size 0 n n ⟨b, 0, none⟩ 1 1 [.string z] Tryz.underlying59 repSize (by show 1 = min 1 n; omega)
   (by intro j v hv; cases j with
     | zero => simp at hv; subst hv; simpa [Addr.add] using hb
     | succ j => simp at hv)
   (by intro j hj; have h1 := rep_isS (z := z) (k := 0) (m := 1) ho (by omega) j (by simpa using hj); exact h1) (fun j _ => ho.frozenAt _) (by intro v hv; simp at hv; subst hv; rfl)
  exact ⟨1, _, hcp, ⟨by omega, .inl (by omega)⟩, RepAt.sets 1 0 ⟨xs, ho, hx⟩ (by omega), setCells_below' (Nat.le_refl _) _ 0 (Below.refl _ _)⟩
set_option maxHeartbeats 2000000 in
set_option maxRecDepth 100000 in
theorem rep_any (b n : Nat) (z : ByteArray) (w : World) (hn : n ≤ 140) (hb : w.cell? ⟨b, 0, none⟩ = some (.string z)) :
    Calls Tryz.prog 60 #[.slice (some ⟨b, 0, none⟩) 1 1, .int .i64 (n : Int)] w fun e w' => e = .returned (.slice (some ⟨w.heap.size, 0, none⟩) n n) ∧ w'.ownsRow w.heap.size 9 1 (.slice (some ⟨w.heap.size, 0, none⟩) n n) n (List.replicate n (.string z)) ∧ Below w.heap.size w w' := by
  obtain ⟨i0, hi, hz0, hz1, hz2⟩ := info_parts strInfoD
  have d0 : decide ((n : Int) < 0) = false := decide_eq_false (by omega)
  have hlt : b < w.heap.size := cell_lt hb
  go_enter Tryz.func60, Tryz.ntmps60
  go_wp2_with fail
  refine (Tryz.bits_Mul 1 n (by omega) (by omega) w).mono ?_
  rintro r w1 ⟨rfl, rfl⟩
  rw [show 1 * n / 18446744073709551616 = 0 by omega, show 1 * n % 18446744073709551616 = n by omega]
  have hmk0 := run_make_row' (P := Tryz.prog) 59 9 (.string ⟨#[]⟩) 16 Tryz.underlying59 strInfoD rfl .i64 .i64 n (by omega) (by omega) w1
  have bW := below1 w1 (.cells (madeCells #[.string ⟨#[]⟩] n) 9)
  have hR0 := rep_new w1 n z (by unfold maxLen; omega)
  have hb1 := (bW.cell hlt).trans hb
  obtain ⟨k0, W2, hcp0, hk0, hR1, hb2⟩ := rep_first w1 n z b hb1 hR0
  have hb2' := bW.trans hb2
  clear hR0 hb1 bW hb2
  go_wp2
  clear hcp0 hmk0
  go_loopw [8] (fun iv wr => ∃ k : Nat, k ≤ n ∧ (0 < k ∨ n = 0) ∧ iv = .int .i64 (k : Int) ∧ RepAt wr w1.heap.size n k z ∧ Below w1.heap.size w1 wr) (fun iv _ => n - (intOf iv).toNat)
  case atStart => exact ⟨k0, hk0.1, hk0.2, rfl, hR1, hb2'⟩
  case round =>
    clear hR1 hb2'
    obtain ⟨k, hk, hpos0, rfl, hR, hb'⟩ := hrel
    by_cases hlt' : k < n
    · obtain ⟨xs, ho, hx⟩ := hR
      obtain ⟨m, hmm⟩ : ∃ m, m = Nat.min k (n - k) := ⟨_, rfl⟩
      have hm := Lib.hid hmm
      have hpos := Lib.hid (show 0 < m by rw [hmm]; exact Nat.lt_min.2 ⟨by omega, by omega⟩)
      have hmk := Lib.hid (show m ≤ k by rw [hmm]; exact Nat.min_le_left _ _)
      have hkm := Lib.hid (show k + m ≤ n by have : m ≤ n - k := by rw [hmm]; exact Nat.min_le_right _ _
                                             omega)
      have t0 : decide ((k : Int) < (n : Int)) = true := decide_eq_true (by omega)
      have ik : (0 : Int) ≤ (k : Int) := by omega
      have ik2 : (k : Int) ≤ (n : Int) := by omega
      have ik3 : k ≤ n := hk
      have ik4 : n ≠ k := by omega
      have ik5 : ((n : Int) - (k : Int)).toNat = n - k := by omega
      have ik6 : (n : Int) ≤ 9223372036854775807 := by omega
      have wkm : IntKind.i64.wrap ((k : Int) + (m : Int)) = (k : Int) + (m : Int) := IntWalk.i64_in _ (by have := hkm.out; omega)
      clear hmm hpos0 hk
      go_wp2
      refine Flow.wp_region_go (by kernel_rfl) (by kernel_rfl) (by kernel_rfl) 48 rfl (by kernel_rfl) (rpV w1.heap.size n k m) (fun _ L wz => RepAt wz w1.heap.size n (cond (L 7) (k + m) k) z ∧ Below w1.heap.size w1 wz) (fun _ _ => False) (()) (⟨⟨_, (Turned.of_below (S := fun _ => False) (Below.refl _ _).drew).own ho (fun _ _ => id), hx⟩, hb'.drew⟩) ⟨?_, ?_, ?_, ?_, ?_, ?_, ?_, ?_, ?_, ?_, trivial⟩ ?_ ?_
      · intro g L wz K ρ hc0 hf0 hF hO hU hcl hi hd hC hK
        have e8 : ρ (.tmp 8) = .int .i64 (k : Int) := hU 8 9 (by kernel_rfl) (by cases h : L 9 with | false => rfl | true => (have := hcl 9 0 (by kernel_rfl) h; rw [hi] at this; cases this))
        simp [go_sem, Flow.ylP_value, Flow.ylP_skip, Flow.ylP_enter, Flow.ylP_panic, hc0, hf0, e8]
        exact hK g wz hC (fun _ _ => rfl)
      · intro g L wz K ρ hc0 hf0 hF hO hU hcl hi hd hC hK
        have e7 : ρ (.tmp 7) = .slice (some ⟨w1.heap.size, 0, none⟩) n n := hO 7 (by kernel_rfl)
        simp [go_sem, Flow.ylP_value, Flow.ylP_skip, Flow.ylP_enter, Flow.ylP_panic, hc0, hf0, e7]
        exact hK g wz hC (fun _ _ => rfl)
      · intro g L wz K ρ hc0 hf0 hF hO hU hcl hi hd hC hK
        have e8 : ρ (.tmp 8) = .int .i64 (k : Int) := hU 8 9 (by kernel_rfl) (by cases h : L 9 with | false => rfl | true => (have := hcl 9 2 (by kernel_rfl) h; rw [hi] at this; cases this))
        simp [go_sem, Flow.ylP_value, Flow.ylP_skip, Flow.ylP_enter, Flow.ylP_panic, hc0, hf0, e8]
        exact hK g wz hC (fun _ _ => rfl)
      · intro g L wz K ρ hc0 hf0 hF hO hU hcl hi hd hC hK
        have d1 : L 1 = true := hd ⟨1, .data⟩ (by simp) rfl
        have e39 : ρ (.tmp 39) = .slice (some ⟨w1.heap.size, 0, none⟩) n n := hF 39 1 (by kernel_rfl) d1
        have d2 : L 2 = true := hd ⟨2, .data⟩ (by simp) rfl
        have e40 : ρ (.tmp 40) = .int .i64 (k : Int) := hF 40 2 (by kernel_rfl) d2
        simp [go_sem, Flow.ylP_value, Flow.ylP_skip, Flow.ylP_enter, Flow.ylP_panic, hc0, hf0, e39, e40, ik, ik2, ik3, ik4, ik5]
        exact hK g wz hC (fun _ _ => rfl)
      · intro g L wz K ρ hc0 hf0 hF hO hU hcl hi hd hC hK
        have e7 : ρ (.tmp 7) = .slice (some ⟨w1.heap.size, 0, none⟩) n n := hO 7 (by kernel_rfl)
        simp [go_sem, Flow.ylP_value, Flow.ylP_skip, Flow.ylP_enter, Flow.ylP_panic, hc0, hf0, e7]
        exact hK g wz hC (fun _ _ => rfl)
      · intro g L wz K ρ hc0 hf0 hF hO hU hcl hi hd hC hK
        have e8 : ρ (.tmp 8) = .int .i64 (k : Int) := hU 8 9 (by kernel_rfl) (by cases h : L 9 with | false => rfl | true => (have := hcl 9 5 (by kernel_rfl) h; rw [hi] at this; cases this))
        simp [go_sem, Flow.ylP_value, Flow.ylP_skip, Flow.ylP_enter, Flow.ylP_panic, hc0, hf0, e8]
        exact hK g wz hC (fun _ _ => rfl)
      · intro g L wz K ρ hc0 hf0 hF hO hU hcl hi hd hC hK
        have d4 : L 4 = true := hd ⟨4, .data⟩ (by simp) rfl
        have e42 : ρ (.tmp 42) = .slice (some ⟨w1.heap.size, 0, none⟩) n n := hF 42 4 (by kernel_rfl) d4
        have d5 : L 5 = true := hd ⟨5, .data⟩ (by simp) rfl
        have e43 : ρ (.tmp 43) = .int .i64 (k : Int) := hF 43 5 (by kernel_rfl) d5
        simp [go_sem, Flow.ylP_value, Flow.ylP_skip, Flow.ylP_enter, Flow.ylP_panic, hc0, hf0, e42, e43, ik, ik2, ik3, ik6]
        exact hK g wz hC (fun _ _ => rfl)
      · intro g L wz K ρ hc0 hf0 hF hO hU hcl hi hd hC hK
        have d3 : L 3 = true := hd ⟨3, .data⟩ (by simp) rfl
        have e41 : ρ (.tmp 41) = .slice (some ⟨w1.heap.size, k, none⟩) (n - k) (n - k) := hF 41 3 (by kernel_rfl) d3
        have d6 : L 6 = true := hd ⟨6, .data⟩ (by simp) rfl
        have e44 : ρ (.tmp 44) = .slice (some ⟨w1.heap.size, 0, none⟩) k n := hF 44 6 (by kernel_rfl) d6
        rw [hi] at hC
        obtain ⟨xs9, ho9, hx9⟩ := hC.1
        have hcp := run_copy_cells (P := Tryz.prog) wz 59 59 3 9 w1.heap.size k (n - k) (n - k) ⟨w1.heap.size, 0, none⟩ k n (List.replicate m (.string z)) Tryz.underlying59 repSize (by rw [List.length_replicate]; exact hm.out) (rep_src ho9 hx9 hmk.out) (rep_isS ho9 hkm.out) (fun j _ => ho9.frozenAt _) (by intro v hv; rw [List.mem_replicate] at hv; rw [hv.2]; rfl)
        rw [List.length_replicate] at hcp
        unfold execOp
        simp only [resolve, invoke, builtin, Sem.run_bind, Sem.run_pure, Result.andThen_ok, List.map_toArray, List.map_cons, List.map_nil, e41, e44, hcp]
        refine hK () _ ⟨hC.1.sets m k hkm.out, setCells_below' (Nat.le_refl _) _ k hC.2⟩ (by intro j hj; unfold rpV; split <;> first | rfl | (rw [hi] at hj; cases hj) | (have hz := hcl _ 7 (by kernel_rfl) hj; rw [hi] at hz; cases hz))
      · intro g L wz K ρ hc0 hf0 hF hO hU hcl hi hd hC hK
        have d0 : L 0 = true := hd ⟨0, .data⟩ (by simp) rfl
        have e38 : ρ (.tmp 38) = .int .i64 (k : Int) := hF 38 0 (by kernel_rfl) d0
        have d7 : L 7 = true := hd ⟨7, .data⟩ (by simp) rfl
        have e45 : ρ (.tmp 45) = .int .i64 (m : Int) := hF 45 7 (by kernel_rfl) d7
        simp [go_sem, Flow.ylP_value, Flow.ylP_skip, Flow.ylP_enter, Flow.ylP_panic, hc0, hf0, e38, e45, wkm]
        exact hK g wz hC (fun _ _ => rfl)
      · intro g L wz K ρ hc0 hf0 hF hO hU hcl hi hd hC hK
        have d8 : L 8 = true := hd ⟨8, .data⟩ (by simp) rfl
        have e46 : ρ (.tmp 46) = .int .i64 ((k : Int) + (m : Int)) := hF 46 8 (by kernel_rfl) d8
        simp [go_sem, Flow.ylP_value, Flow.ylP_skip, Flow.ylP_enter, Flow.ylP_panic, hc0, hf0, e46]
        exact hK g wz hC (fun _ _ => rfl)
      · intro g L ch wz h; exact h.elim
      · intro g L wz hL hC
        rw [hL 7 (by decide)] at hC
        simp only [Flow.putAll, rpV]
        simp [Act.put, wkm]
        go_wp2
        go_roundw
        case rel => exact ⟨k + m, hkm.out, .inl (by have := hpos.out; omega), by rw [Int.natCast_add], hC.1, hC.2⟩
        case measure => simp [intOf]; have := hpos.out; have := hkm.out; omega
    · obtain rfl : k = n := by omega
      have t0 : decide ((k : Int) < (k : Int)) = false := decide_eq_false (by omega)
      clear hlt'
      go_wp2
      go_ret
      exact ⟨rfl, hR.done, hb'⟩
end Go.Proofs.YtfefpcdgflgaeaaGreatDoor
end

section
namespace Go.Proofs.YtfefpcdgflgaeaaGreatDoor
set_option linter.unusedSimpArgs false
set_option linter.unusedVariables false
open Go.RowKit As Go.Maps
theorem secs_none (N : Nat) : secs N (fun _ => none) = List.replicate N (.string (zeros 32)) := by
 unfold secs safeAt
 apply List.ext_getElem?
 intro j
 by_cases hj : j < N
 ·rw [List.getElem?_map, List.getElem?_range hj, List.getElem?_replicate, if_pos hj]; rfl
 ·rw [List.getElem?_eq_none (by simp; omega), List.getElem?_eq_none (by simp; omega)]
set_option maxHeartbeats 1000000 in
set_option maxRecDepth 100000 in
theorem dnew_any (N : Nat) (h : N ≤ 140) (w : World) :
  Calls Tryz.prog 31 #[.int .i64 (N : Int)] w fun e w' => ∃ d R M, e = .returned (.tuple #[.pointer (some ⟨d, 0, none⟩), .nilIface]) ∧ PD w' d R M N N 0 (fun _ => none) (fun _ => none) ∧ (w.heap.size ≤ d ∧ w.heap.size ≤ R ∧ w.heap.size ≤ M) ∧ Below w.heap.size w w' := by
 have d0 : decide ((N : Int) < 0) = false := decide_eq_false (by omega)
 have d1 : decide (140 < (N : Int)) = false := decide_eq_false (by omega)
 have hmm := @run_makeMap Tryz.prog
 have hmk : (Instr.makeSlice 69 (.int .i64 32) (.int .i64 32)).run Tryz.prog w = .ok (.slice (some ⟨w.heap.size, 0, none⟩) 32 32) (w.alloc (.cells (madeCells #[.int .u8 0] 32) 5)) := run_make_row' (P := Tryz.prog) 69 5 (.int .u8 0) 1 Tryz.underlying69 dwInfo rfl .i64 .i64 32 (by omega) (by omega) w
 have b1 := below1 w (.cells (madeCells #[.int .u8 0] 32) 5)
 have hcv : (convert 69 9 (.slice (some ⟨w.heap.size, 0, none⟩) 32 32)).run Tryz.prog (w.alloc (.cells (madeCells #[.int .u8 0] 32) 5)) = .ok (.string (zeros 32)) (w.alloc (.cells (madeCells #[.int .u8 0] 32) 5)) := by
  have := string_of (P := Tryz.prog) _ 69 5 9 w.heap.size 32 (List.replicate 32 0) Tryz.underlying69 Tryz.underlying5 Tryz.underlying9 (bytes_made w 32)
  rw [List.length_replicate] at this
  exact this
 go_enter Tryz.func31, Tryz.ntmps31
 go_wp2_with fail
 have b2 := below1 (w.alloc (.cells (madeCells #[.int .u8 0] 32) 5)) (.cells #[.string (zeros 32)] 9)
 have b12 := b1.trans (b2.mono b1.size)
 have hc : ((w.alloc (.cells (madeCells #[.int .u8 0] 32) 5)).alloc (.cells #[.string (zeros 32)] 9)).cell? ⟨w.heap.size + 1, 0, none⟩ = some (.string (zeros 32)) := by
  rw [show w.heap.size + 1 = (w.alloc (.cells (madeCells #[.int .u8 0] 32) 5)).heap.size by simp, World.cell?_alloc_new]
  rfl
 clear hmk hcv b1 b2
 generalize (w.alloc (.cells (madeCells #[.int .u8 0] 32) 5)).alloc (.cells #[.string (zeros 32)] 9) = W2 at *
 refine (rep_any (w.heap.size + 1) N (zeros 32) W2 h hc).mono ?_
 rintro r w3 ⟨rfl, ho, hb3⟩
 have b3 := b12.trans (hb3.mono b12.size)
 have hw3 : W2.heap.size < w3.heap.size := row_lt ho
 have lW := b12.size
 have bM : Below w3.heap.size w3 (w3.alloc (.map #[] 0)) := below1 w3 (.map #[] 0)
 have iM := IM.made w3
 have bD := below1 (w3.alloc (.map #[] 0)) (.cells #[.slice (some ⟨W2.heap.size, 0, none⟩) N N, .map (some w3.heap.size)] 109)
 have b4 := b3.trans (bM.mono b3.size)
 have b5 := b4.trans (bD.mono b4.size)
 have hT : Turned (fun _ => False) w3 ((w3.alloc (.map #[] 0)).alloc (.cells #[.slice (some ⟨W2.heap.size, 0, none⟩) N N, .map (some w3.heap.size)] 109)) := (Turned.of_below bM).trans (.of_below bD)
 have hTD : Turned (fun _ => False) (w3.alloc (.map #[] 0)) ((w3.alloc (.map #[] 0)).alloc (.cells #[.slice (some ⟨W2.heap.size, 0, none⟩) N N, .map (some w3.heap.size)] 109)) := .of_below bD
 have hP : PD ((w3.alloc (.map #[] 0)).alloc (.cells #[.slice (some ⟨W2.heap.size, 0, none⟩) N N, .map (some w3.heap.size)] 109)) (w3.heap.size + 1) W2.heap.size w3.heap.size N N 0 (fun _ => none) (fun _ => none) := by
  refine ⟨?_, ?_, by rw [secs_none]; exact hT.own ho (fun _ _ => id), hTD.im iM id, .new h, by omega, by omega, by omega⟩
  ·rw [show w3.heap.size + 1 = (w3.alloc (.map #[] 0)).heap.size by simp, World.cell?_alloc_new]; rfl
  ·rw [show w3.heap.size + 1 = (w3.alloc (.map #[] 0)).heap.size by simp, World.cell?_alloc_new]; rfl
 clear hc ho hb3 b12 b3 b4 iM bM bD hT hTD
 go_wp2
 go_ret2
 exact ⟨_, _, _, rfl, hP, ⟨by omega, by omega, by omega⟩, b5⟩
end Go.Proofs.YtfefpcdgflgaeaaGreatDoor
end
