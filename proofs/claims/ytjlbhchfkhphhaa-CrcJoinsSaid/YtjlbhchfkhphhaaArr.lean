/- An array of 32 numbers in a block of its own, and as a value. -/
import Derived.Test.YtjlbhchfkhphhaaCrcWalks
import Derived.Test.YtjlbhchfkhphhaaCrcJoinLaw
import Derived.Test.YtjlbhchfkhphhaaMem
import Derived.Deep.MidRow
namespace Go.Proofs.Ytjlbhchfkhphhaa.Crc
set_option linter.unusedSimpArgs false
set_option linter.unusedVariables false
open Go.RowKit
theorem ar_ne {w : World} {B i j : Nat} {v u : Value} (h : w.cell? ⟨B, j, none⟩ = some u) (hij : i ≠ j) : (w.setCell ⟨B, i, none⟩ v).cell? ⟨B, j, none⟩ = some u := by
  rw [World.cell?_setCell_other _ _ _ _ (by intro h; injection h with _ h2; exact hij (by first | exact h2 | exact h2.symm | injection h2))]
  exact h
theorem ar_nb {w : World} {B C i j : Nat} {v u : Value} (h : w.cell? ⟨C, j, none⟩ = some u) (hij : B ≠ C) : (w.setCell ⟨B, i, none⟩ v).cell? ⟨C, j, none⟩ = some u := by
  rw [World.cell?_setCell_other _ _ _ _ (by intro h; injection h with h1 _; exact hij (by first | exact h1 | exact h1.symm))]
  exact h
def av (f : Nat → Nat) : List Value := (List.range 32).map fun i => .int .u32 (f i : Int)
theorem av_len (f : Nat → Nat) : (av f).length = 32 := by simp [av]
theorem av_get (f : Nat → Nat) {k : Nat} (h : k < 32) : (av f)[k]? = some (.int .u32 (f k : Int)) := by unfold av; rw [List.getElem?_map, List.getElem?_range h]; rfl
theorem av_one (f : Nat → Nat) : ∀ v ∈ av f, v.oneCell' = true := by
  intro v hv
  unfold av at hv
  obtain ⟨i, _, rfl⟩ := List.mem_map.1 hv
  rfl
/-- The array lies in block B. -/
structure AR (w : World) (B : Nat) (f : Nat → Nat) : Prop where
  c : ∀ k, k < 32 → w.cell? ⟨B, k, none⟩ = some (.int .u32 (f k : Int))
  f : ∀ k, w.frozen? ⟨B, k, none⟩ = false
section
variable {w w' : World} {B : Nat} {f g : Nat → Nat}
theorem AR.range (h : AR w B f) : w.rangeAt B 0 (av f) := by
  intro j v hv
  have hj : j < 32 := by have := (List.getElem?_eq_some_iff.1 hv).1; rw [av_len] at this; exact this
  rw [av_get f hj] at hv
  rw [Nat.zero_add, h.c j hj, hv]
theorem AR.there (h : AR w B f) : w.there B 0 (av g).toArray.size := by
  intro j hj
  rw [List.size_toArray, av_len] at hj
  rw [Nat.zero_add]
  exact ⟨by rw [h.c j hj]; rfl, h.f j⟩
theorem AR.lt (h : AR w B f) : B < w.heap.size := cell_lt (h.c 0 (by omega))
theorem AR.keep {N : Nat} (h : AR w B f) (hb : Below N w w') (hB : B < N) : AR w' B f :=
  ⟨fun k hk => (hb.cell (p := ⟨B, k, none⟩) hB).trans (h.c k hk), fun k => (hb.frozen (p := ⟨B, k, none⟩) hB).trans (h.f k)⟩
theorem AR.below (h : AR w B f) (hb : Below w.heap.size w w') : AR w' B f := h.keep hb h.lt
theorem AR.set (h : AR w B f) {k x : Nat} (hk : k < 32) : AR (w.setCell ⟨B, k, none⟩ (.int .u32 (x : Int))) B (fun i => if i = k then x else f i) := by
  refine ⟨fun i hi => ?_, fun i => by simpa using h.f i⟩
  by_cases e : i = k
  · subst e
    rw [if_pos rfl]
    exact World.cell?_setCell_same _ _ _ (h.c i hi)
  · rw [if_neg e]
    exact ar_ne (h.c i hi) (by omega)
theorem AR.other (h : AR w B f) {C i : Nat} (hn : C ≠ B) (v : Value) : AR (w.setCell ⟨C, i, none⟩ v) B f := ⟨fun k hk => ar_nb (h.c k hk) hn, fun k => by simpa using h.f k⟩
theorem AR.put (h : AR w B f) : AR (w.setCells B 0 (av g)) B g := by
  refine ⟨fun k hk => ?_, fun k => by rw [World.frozen?_setCells]; exact h.f k⟩
  have := World.rangeAt_setCells_same w B 0 (av g) (by intro j hj; rw [av_len] at hj; rw [Nat.zero_add]; exact ⟨by rw [h.c j hj]; rfl, h.f j⟩) k _ (av_get g hk)
  rw [Nat.zero_add] at this
  exact this
theorem AR.new (w : World) (f : Nat → Nat) (t : TypeId) : AR (w.alloc (.cells (av f).toArray t)) w.heap.size f := by
  refine ⟨fun k hk => ?_, fun k => by simp⟩
  rw [World.cell?_alloc_new]
  simp [av_get f hk]
theorem AR.same (h : AR w B f) (hg : ∀ k, k < 32 → f k = g k) : AR w B g := ⟨fun k hk => by rw [← hg k hk]; exact h.c k hk, h.f⟩
theorem av_same (hg : ∀ k, k < 32 → f k = g k) : av f = av g := by
  unfold av
  apply List.map_congr_left
  intro i hi
  rw [hg i (by simpa using hi)]
end
theorem av_zero : (av fun _ => 0).toArray = #[.int .u32 0, .int .u32 0, .int .u32 0, .int .u32 0, .int .u32 0, .int .u32 0, .int .u32 0, .int .u32 0, .int .u32 0, .int .u32 0, .int .u32 0, .int .u32 0, .int .u32 0, .int .u32 0, .int .u32 0, .int .u32 0, .int .u32 0, .int .u32 0, .int .u32 0, .int .u32 0, .int .u32 0, .int .u32 0, .int .u32 0, .int .u32 0, .int .u32 0, .int .u32 0, .int .u32 0, .int .u32 0, .int .u32 0, .int .u32 0, .int .u32 0, .int .u32 0] := rfl
theorem setCells_below {N B : Nat} {a : World} (hB : N ≤ B) : ∀ (vs : List Value) (o : Nat) {w : World}, Below N a w → Below N a (w.setCells B o vs)
  | [], _, _, h => h
  | v :: r, o, w, h => setCells_below hB r (o + 1) (h.setCell (p := ⟨B, o, none⟩) hB v)
theorem times_yes {f : Nat → Nat} {n k : Nat} (h : n / 2 ^ k % 2 = 1) : some_ f n (k + 1) = some_ f n k ^^^ f k := by
  show (if n / 2 ^ k % 2 = 1 then some_ f n k ^^^ f k else some_ f n k) = _
  rw [if_pos h]
theorem times_no {f : Nat → Nat} {n k : Nat} (h : ¬ n / 2 ^ k % 2 = 1) : some_ f n (k + 1) = some_ f n k := by
  show (if n / 2 ^ k % 2 = 1 then some_ f n k ^^^ f k else some_ f n k) = _
  rw [if_neg h]
theorem bit_test (n k : Nat) (h : n < 4294967296) : bits BinOp.and IntKind.u32 ((n : Int) / 2 ^ k) 1 = ((n / 2 ^ k % 2 : Nat) : Int) := by
  have e : (n : Int) / 2 ^ k = ((n / 2 ^ k : Nat) : Int) := by simp
  rw [e]
  exact and_one _ (Nat.lt_of_le_of_lt (Nat.div_le_self _ _) h)
theorem bit_yes {n k : Nat} (h : n < 4294967296) (t : n / 2 ^ k % 2 = 1) : (bits BinOp.and IntKind.u32 ((n : Int) / 2 ^ k) 1 == 1) = true := by rw [bit_test n k h, t]; rfl
theorem bit_no {n k : Nat} (h : n < 4294967296) (t : ¬ n / 2 ^ k % 2 = 1) : (bits BinOp.and IntKind.u32 ((n : Int) / 2 ^ k) 1 == 1) = false := by
  rw [bit_test n k h, beq_eq_false_iff_ne]
  omega
theorem arr_under : Try.prog.underlying 25 = some (.array 32 22) := by kernel_rfl
theorem arr_size : (Try.prog.info? 25).map (·.size) = some 32 := by kernel_rfl
theorem arr_size' (f : Nat → Nat) : (Try.prog.info? 25).map (·.size) = some (av f).length := by rw [av_len]; exact arr_size
theorem arr_size'' (f : Nat → Nat) : (Try.prog.info? 25).map (·.size) = some (av f).toArray.size := by rw [List.size_toArray]; exact arr_size' f
set_option maxHeartbeats 1000000 in
set_option maxRecDepth 100000 in
theorem times_any (f : Nat → Nat) (hf : ∀ i, f i < 4294967296) (n : Nat) (hn : n < 4294967296) (w : World) :
    Calls Try.prog 7 #[.agg (av f).toArray, .int .u32 (n : Int)] w fun e w' => e = .returned (.int .u32 (some_ f n 32 : Int)) ∧ Below w.heap.size w w' := by
  have hA := AR.new w f 25
  have b0 := (Below.refl w.heap.size w).alloc (Nat.le_refl _) (.cells (av f).toArray 25)
  go_enter Try.func7, Try.ntmps7
  go_wp2
  generalize w.alloc (.cells (av f).toArray 25) = W at *
  go_loop [5, 6, 7] (fun ov _ iv => ∃ k : Nat, k ≤ 32 ∧ iv = .int .i64 k ∧ ov = .int .u32 (some_ f n k : Int)) (fun _ _ iv => 32 - (intOf iv).toNat)
  case atStart => exact ⟨0, by omega, rfl, rfl⟩
  case round =>
    obtain ⟨k, hk, rfl, rfl⟩ := hrel
    by_cases hlt : k < 32
    · have hc := hA.c k hlt
      by_cases ht : n / 2 ^ k % 2 = 1
      · have tt := bit_yes hn ht
        have hx := Lib.hid (show bits BinOp.xor IntKind.u32 (some_ f n k : Int) (f k : Int) = (some_ f n (k + 1) : Int) by rw [times_yes ht]; exact u32_xor_nat _ _ (some_lt hf n k) (hf k))
        clear ht
        go_wp2
        go_round
        case rel => exact ⟨k + 1, by omega, by go_num, valI hx.out⟩
        case measure => simp [intOf]; omega
      · have tt := bit_no hn ht
        have hx := Lib.hid (times_no (f := f) ht)
        clear ht
        go_wp2
        go_round
        case rel => exact ⟨k + 1, by omega, by go_num, by rw [hx.out]⟩
        case measure => simp [intOf]; omega
    · obtain rfl : k = 32 := by omega
      go_wp2
      go_ret
      exact ⟨rfl, b0⟩
/-- What a nought byte does to each bit. -/
def m8 (i : Nat) : Nat := iter 8 (2 ^ i)
theorem two_lt {k : Nat} (h : k < 32) : 2 ^ k < 4294967296 := Nat.pow_lt_pow_right (by omega) h
theorem pow_in {k : Nat} (h : k < 32) : bits BinOp.and IntKind.u32 (2 ^ k % 4294967296) 255 = ((2 ^ k % 256 : Nat) : Int) := by
  have h2 := two_lt h
  have e0 : (2 : Int) ^ k = ((2 ^ k : Nat) : Int) := by simp
  have e1 : (2 : Int) ^ k % 4294967296 = ((2 ^ k : Nat) : Int) := by rw [e0]; generalize 2 ^ k = p at h2 ⊢; omega
  have e := u32_and_nat (2 ^ k) 255 h2 (by omega)
  rw [nat_mask8] at e
  rw [e1]
  exact e
theorem pow_out {k : Nat} (h : k < 32) : bits BinOp.xor IntKind.u32 (one (2 ^ k % 256) : Int) (2 ^ k % 4294967296 / 256) = (m8 k : Int) := by
  have h2 := two_lt h
  have e0 : (2 : Int) ^ k = ((2 ^ k : Nat) : Int) := by simp
  have e1 : (2 : Int) ^ k % 4294967296 / 256 = ((2 ^ k / 256 : Nat) : Int) := by rw [e0]; generalize 2 ^ k = p at h2 ⊢; omega
  have hl : one (2 ^ k % 256) < 4294967296 := iter_lt 8 (by have := Nat.mod_lt (2 ^ k) (show 0 < 256 by omega); omega)
  rw [e1, u32_xor_nat _ _ hl (by generalize 2 ^ k = p at h2 ⊢; omega), mat_at]
  rfl
set_option maxHeartbeats 1000000 in
set_option maxRecDepth 100000 in
theorem mat_any (w : World) : Calls Try.prog 6 #[] w fun e w' => e = .returned (.agg (av m8).toArray) ∧ Below w.heap.size w w' := by
  have hA := AR.new w (fun _ => 0) 25
  have b0 := (Below.refl w.heap.size w).alloc (Nat.le_refl _) (.cells (av fun _ => 0).toArray 25)
  have hB := AR.new (w.alloc (.cells (av fun _ => 0).toArray 25)) (fun _ => 0) 25
  have b1 := (Below.refl (w.alloc (.cells (av fun _ => 0).toArray 25)).heap.size (w.alloc (.cells (av fun _ => 0).toArray 25))).alloc (Nat.le_refl _) (.cells (av fun _ => 0).toArray 25)
  have hA1 := hA.below b1
  have b2 := b0.trans (b1.mono b0.size)
  rw [av_zero] at hA1 hB b2
  go_enter Try.func6, Try.ntmps6
  go_wp2
  rw [World.size_alloc] at hB
  generalize (w.alloc _).alloc _ = W at *
  go_loopw [2, 3, 4] (fun _ _ iv wr => ∃ k : Nat, k ≤ 32 ∧ iv = .int .i64 k ∧ AR wr w.heap.size (fun _ => 0) ∧ AR wr (w.heap.size + 1) (fun i => if i < k then m8 i else 0) ∧ Below w.heap.size w wr) (fun _ _ iv _ => 32 - (intOf iv).toNat)
  case atStart => exact ⟨0, by omega, rfl, hA1, hB.same (fun k _ => by simp), b2⟩
  case round =>
    obtain ⟨k, hk, rfl, hP, hQ, hb⟩ := hrel
    by_cases hlt : k < 32
    · have hin := Lib.hid (pow_in hlt)
      have hout := Lib.hid (pow_out hlt)
      have hQ2 := (hQ.set (x := m8 k) hlt).same (g := fun i => if i < k + 1 then m8 i else 0) (fun i _ => by
        by_cases e : i = k
        · subst e; simp
        · rw [if_neg e]; by_cases e2 : i < k
          · rw [if_pos e2, if_pos (by omega)]
          · rw [if_neg e2, if_neg (by omega)])
      have hP2 := hP.other (C := w.heap.size + 1) (i := k) (by omega) (.int .u32 (m8 k : Int))
      have hb2 := hb.setCell (p := ⟨w.heap.size + 1, k, none⟩) (Nat.le_succ _) (.int .u32 (m8 k : Int))
      have c0 := hQ.c k hlt
      have f0 := hQ.f k
      rw [if_neg (Nat.lt_irrefl k)] at c0
      go_wp2_with fail
      rw [hin.out]
      refine (one_any _ _ (by have := Nat.mod_lt (2 ^ k) (show 0 < 256 by omega); omega)).mono ?_
      rintro e w' ⟨rfl, rfl⟩
      go_wp2
      rw [hout.out]
      go_roundw
      case rel => exact ⟨k + 1, by omega, by go_num, hP2, hQ2, hb2⟩
      case measure => simp [intOf]; omega
    · obtain rfl : k = 32 := by omega
      have hQ' := hQ.same (g := m8) (fun k hk => by rw [if_pos hk])
      go_wp2_with (first
        | (refine wpList_load_mid rfl 25 _ rfl _ 0 rfl (av m8) _ hQ'.range arr_under rfl (arr_size' _) ?_)
        | (refine wpList_store_mid rfl 25 _ _ rfl _ 0 (av m8).toArray rfl rfl hP.there (arr_size'' _) (all_oneCell_toArray (av_one _)) ?_))
      have hP3 := hP.put (g := m8)
      have b3 := setCells_below (Nat.le_refl _) (av m8) 0 hb
      have hrun := run_loadVar_mid (P := Try.prog) (wr.setCells w.heap.size 0 (av m8)) w.heap.size 0 25 (av m8) _ hP3.range arr_under rfl (arr_size' _)
      exact bodyPost_ret (v := .agg (av m8).toArray) (by simp [results, Try.results6, Act.put, asAddr, hrun]) rfl ⟨rfl, b3⟩
end Go.Proofs.Ytjlbhchfkhphhaa.Crc
