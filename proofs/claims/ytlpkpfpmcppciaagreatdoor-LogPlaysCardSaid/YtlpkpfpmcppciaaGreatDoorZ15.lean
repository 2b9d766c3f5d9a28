/- slices.Insert of one write into a row of writes of one's own. -/
import Derived.Test.YtlpkpfpmcppciaaGreatDoorZ10
import Derived.Lib.AppendZerosOnto
import Derived.Lib.Overlaps
import Derived.Deep.AppendLies
section
namespace Go.Proofs.YtlpkpfpmcppciaaGreatDoor
set_option linter.unusedSimpArgs false
set_option linter.unusedVariables false
open Go.RowKit Go.Lib
theorem run_copy_wide {P : Program} (w : World) (dT sT ty elem : TypeId) (b o dLen dCap : Nat) (a : Addr) (sLen sCap m size : Nat) (cs : List Value)
  (hu : P.underlying dT = some (.slice elem)) (hs : (P.info? elem).map (·.size) = some size) (hm : Nat.min sLen dLen = m) (hn : cs.length = m * size)
  (hsrc : ∀ j v, cs[j]? = some v → w.cell? (a.add j) = some v) (hc : ∀ j, j < cs.length → (w.cell? ⟨b, o + j, none⟩).isSome = true) (hf : ∀ j, j < cs.length → w.frozen? ⟨b, o + j, none⟩ = false) (h1 : ∀ v ∈ cs, v.oneCell' = true) :
  (Builtin.copy_ #[dT, sT] ty #[.slice (some ⟨b, o, none⟩) dLen dCap, .slice (some a) sLen sCap]).run P w = .ok (goInt m) (w.setCells b o cs) := by
 have hl := run_loadCells_list (P := P) w a cs hsrc
 have hst := run_storeCells_cells (P := P) b o cs 0 w (by simpa using hc) (by simpa using hf) h1
 cases hq : P.info? elem with
 | none => simp [hq] at hs
 | some i =>
  have hi : i.size = size := by simpa [hq] using hs
  simp [Builtin.copy_, run_underlying hu, Builtin.lenOf, Builtin.firstCells, sizeOf, typeInfo, hq, hi, hm, ← hn, hl, hst]
theorem lst_shift_wide {α : Type} (C X t : List α) (i : Nat) (hx : C.take X.length = X) (hi : i ≤ X.length) (hl : X.length + t.length ≤ C.length) {C1 : List α} (h1 : C1 = C.take (i + t.length) ++ X.drop i ++ C.drop (i + t.length + (X.drop i).length)) :
  (C1.take i ++ t ++ C1.drop (i + t.length)).take (X.length + t.length) = X.take i ++ t ++ X.drop i := by
 have ht : (C.take (i + t.length)).length = i + t.length := by rw [List.length_take]; omega
 have e1 : C1.take i = X.take i := by
  rw [h1, List.append_assoc, List.take_append_of_le_length (by omega), List.take_take, Nat.min_eq_left (by omega), ← hx, List.take_take, Nat.min_eq_left hi]
 have e2 : C1.drop (i + t.length) = X.drop i ++ C.drop (i + t.length + (X.drop i).length) := by
  rw [h1, List.append_assoc, List.drop_append_of_le_length (by omega), List.drop_eq_nil_of_le (by omega), List.nil_append]
 rw [e1, e2]
 have e3 : X.take i ++ t ++ (X.drop i ++ C.drop (i + t.length + (X.drop i).length)) = (X.take i ++ t ++ X.drop i) ++ C.drop (i + t.length + (X.drop i).length) := by simp
 rw [e3]
 refine List.take_left' ?_
 simp only [List.length_append, List.length_take, List.length_drop]
 omega
def wIns (l : List Wr) (i : Nat) (x : Wr) : List Wr := l.take i ++ x :: l.drop i
theorem wIns_len (l : List Wr) (i : Nat) (x : Wr) : (wIns l i x).length = l.length + 1 := by
 simp only [wIns, List.length_append, List.length_cons, List.length_take, List.length_drop]
 omega
theorem wflat (l : List Wr) : (l.flatMap wrCells).length = l.length * 6 := flat_len wrCells 6 (fun _ => rfl) l
theorem wflat_take (l : List Wr) (i : Nat) : (l.flatMap wrCells).take (i * 6) = (l.take i).flatMap wrCells := by
 induction l generalizing i with
 | nil => simp
 | cons x l ih =>
  cases i with
  | zero => simp
  | succ i =>
   rw [List.flatMap_cons, List.take_succ_cons, List.flatMap_cons, ← ih i, show (i + 1) * 6 = (wrCells x).length + i * 6 from by rw [show (wrCells x).length = 6 from rfl]; omega, List.take_length_add_append]
theorem wflat_drop (l : List Wr) (i : Nat) : (l.flatMap wrCells).drop (i * 6) = (l.drop i).flatMap wrCells := by
 induction l generalizing i with
 | nil => simp
 | cons x l ih =>
  cases i with
  | zero => simp
  | succ i =>
   rw [List.flatMap_cons, List.drop_succ_cons, ← ih i, show (i + 1) * 6 = (wrCells x).length + i * 6 from by rw [show (wrCells x).length = 6 from rfl]; omega, List.drop_length_add_append]
theorem wIns_flat (l : List Wr) (i : Nat) (x : Wr) : (wIns l i x).flatMap wrCells = (l.flatMap wrCells).take (i * 6) ++ wrCells x ++ (l.flatMap wrCells).drop (i * 6) := by
 rw [wIns, List.flatMap_append, List.flatMap_cons, wflat_take, wflat_drop, List.append_assoc]
/-- What an insertion leaves. -/
structure InsdW (w w' : World) (B : Nat) (v v' : Value) (l : List Wr) (i : Nat) (x : Wr) : Prop where
 own : w'.ownsRow B 32 6 v' (l.length + 1) ((wIns l i x).flatMap wrCells)
 turn : Turned (fun j => v.ownBlock = some j) w w'
 block : ∀ g, v'.ownBlock = some g → v.ownBlock = some g ∨ w.heap.size ≤ g
theorem wr_size (w : World) : (sizeOf 32).run Tryz.prog w = .ok 6 w := by kernel_rfl
theorem run_cutw (w : World) (g n c i : Nat) (hi : i ≤ n) (hc : ¬ c = i) (k : Int) (hk : k = (i : Int)) (m d : Nat) (hm : m = n - i) (hd : d = c - i) : (Instr.slice 22 (.slice (some ⟨g, 0, none⟩) n c) (some (.int .i64 k)) none none).run Tryz.prog w = .ok (.slice (some ⟨g, i * 6, none⟩) m d) w := by
 subst hk hm hd
 rw [run_slice_l w _ _ n c (by kernel_rfl) .i64 i (by omega) (by omega), show (sizeOf (Tryz.prog.elem 22)).run Tryz.prog w = .ok 6 w by kernel_rfl]
 simp [sliced, hc, Addr.add_lit]
theorem run_headw (w : World) (g n c : Nat) (k : Int) (m : Nat) (hk : k = (m : Int)) (hm : m ≤ c) : (Instr.slice 22 (.slice (some ⟨g, 0, none⟩) n c) none (some (.int .i64 k)) none).run Tryz.prog w = .ok (.slice (some ⟨g, 0, none⟩) m c) w := by
 subst hk
 rw [run_slice_h w _ _ n c (by kernel_rfl) .i64 m (by omega) (by omega), show (sizeOf (Tryz.prog.elem 22)).run Tryz.prog w = .ok 6 w by kernel_rfl]
 simp [sliced, Addr.add_lit]
theorem run_cutw_any (w : World) (A : Option Addr) (n c i : Nat) (hi : i ≤ n) : ∃ v, (Instr.slice 22 (.slice A n c) (some (.int .i64 (i : Int))) none none).run Tryz.prog w = .ok v w := by
 rw [run_slice_l w _ _ n c (by kernel_rfl) .i64 i (by omega) (by omega), show (sizeOf (Tryz.prog.elem 22)).run Tryz.prog w = .ok 6 w by kernel_rfl]
 exact ⟨_, rfl⟩
set_option maxHeartbeats 4000000 in
set_option maxRecDepth 100000 in
/-- At the end. -/
theorem insw_end {w : World} {B : Nat} {A : Option Addr} {n c : Nat} {l : List Wr} (ho : w.ownsRow B 32 6 (.slice A n c) l.length (l.flatMap wrCells)) (x : Wr) (vb : Nat)
  (hl : (l.length + 1) * 64 ≤ 140737488355328) (hB : B ≤ w.heap.size) (hv : RC w vb (wrCells x)) :
  Calls Tryz.prog 59 #[.slice A n c, .int .i64 (l.length : Int), .slice (some ⟨vb, 0, none⟩) 1 1] w fun e w' => ∃ v', e = .returned v' ∧ InsdW w w' B (.slice A n c) v' l l.length x := by
 obtain ⟨i0, hi, hz0, hz1, hz2⟩ := info_parts wrsInfo
 have hn : n = l.length := by
  rcases ho.2 with ⟨e, h0⟩ | ⟨g, cap, cur, e, _⟩
  ·injection e with _ e _; omega
  ·injection e
 subst hn
 obtain ⟨v1, hr1⟩ := run_cutw_any w A l.length c l.length (Nat.le_refl _)
 obtain ⟨g, cap, w', hrun, h2, h3, h4, h5⟩ := run_append_lies (P := Tryz.prog) w 22 22 B 32 i0 (.agg #[.int .i64 0, .int .i64 0, .int .i64 0, .string ⟨#[]⟩, .string ⟨#[]⟩, .int .i64 0]) 6 64 Tryz.underlying22 hi hz0 hz1 hz2 rfl (by decide) (.slice A l.length c) l.length (l.flatMap wrCells) ho ⟨vb, 0, none⟩ 1 1 (wrCells x) rfl
   (fun j u hj => by
    have e : (⟨vb, 0, none⟩ : Addr).add j = ⟨vb, j, none⟩ := by unfold Addr.add; split <;> simp_all
    rw [e]
    exact (hv j u hj).1) (fun u hu => wrCells_one (l := [x]) u (by simpa using hu)) (by decide) (by unfold maxLen; omega) hl hB _ rfl
 have hI : InsdW w w' B (.slice A l.length c) (.slice (some ⟨g, 0, none⟩) (l.length + 1) cap) l l.length x := by
  refine ⟨?_, ⟨h3.os, h3.tape, h3.output, h3.size, fun k hk hn => h3.block k hk (fun e => hn e.symm)⟩, fun g' hg' => ?_⟩
  ·rw [wIns_flat, ← wflat, List.take_length, List.drop_length, List.append_nil]
   exact h2
  ·injection hg' with hg'
   simp only at hg'
   subst hg'
   rcases h4 with h | h
   ·exact .inl h
   ·exact .inr (by omega)
 clear h2 h3 h4 h5 ho hv hi hz0 hz1 hz2
 have HI := Lib.hid hI
 clear hI
 clear hl hB
 go_enter Tryz.func59, Tryz.ntmps59
 go_wp2_with (at_builtin; refine Lib.wpList_append_run _ rfl _ _ _ _ rfl _ _ rfl rfl _ _ hrun ?_)
 go_ret
 exact ⟨_, rfl, HI.out⟩
theorem w_inc {k : Nat} (h : k + 1 ≤ maxLen) : IntKind.i64.wrap ((k : Int) + 1) = (k : Int) + 1 ∧ wrap64 ((k : Int) + 1) = (k : Int) + 1 := by
 unfold maxLen at h
 exact ⟨IntWalk.i64_in _ (by omega), IntWalk.wrap64_in _ (by omega)⟩
theorem ins_wraps {i n : Nat} (hi : i ≤ n) (hn : n ≤ 4000000000000) : (IntKind.i64.wrap ((i : Int) + 1) = (i : Int) + 1 ∧ wrap64 ((i : Int) + 1) = (i : Int) + 1) ∧ (IntKind.i64.wrap ((n : Int) + 1) = (n : Int) + 1 ∧ wrap64 ((n : Int) + 1) = (n : Int) + 1) ∧ IntKind.i64.wrap ((n : Int) + 1 - (i : Int)) = (n : Int) + 1 - (i : Int) ∧ wrap64 ((n : Int) + 1 - (i : Int)) = (n : Int) + 1 - (i : Int) := by
 refine ⟨⟨?_, ?_⟩, ⟨?_, ?_⟩, ?_, ?_⟩
 ·exact IntWalk.i64_in _ (by omega)
 ·exact IntWalk.wrap64_in _ (by omega)
 ·exact IntWalk.i64_in _ (by omega)
 ·exact IntWalk.wrap64_in _ (by omega)
 ·exact IntWalk.i64_in _ (by omega)
 ·exact IntWalk.wrap64_in _ (by omega)
theorem isSome_row {w : World} {g : Nat} {cur : Array Value} {t : TypeId} (h : w.heap[g]? = some (.cells cur t (0, 0))) {j : Nat} (hj : j < cur.size) : (w.cell? ⟨g, j, none⟩).isSome = true := by
 rw [cell_of_row w g j cur _ (0, 0) h]
 simp [hj]
set_option maxHeartbeats 4000000 in
set_option maxRecDepth 100000 in
theorem insw_shift {w : World} {B g n c i : Nat} {l : List Wr} {cur : Array Value} (hg : w.heap[g]? = some (.cells cur 32 (0, 0))) (hn : n = l.length) (hs : cur.size = c * 6) (ht : cur.toList.take (n * 6) = l.flatMap wrCells) (hBg : B ≤ g) (hcm : c ≤ maxLen)
  (hi : i < n) (hc : n + 1 ≤ c) (x : Wr) (vb : Nat) (hv : w.heap[vb]? = some (.cells (wrCells x).toArray 32 (0, 0))) (hne : vb ≠ g) :
  Calls Tryz.prog 59 #[.slice (some ⟨g, 0, none⟩) n c, .int .i64 (i : Int), .slice (some ⟨vb, 0, none⟩) 1 1] w fun e w' => ∃ v', e = .returned v' ∧ InsdW w w' B (.slice (some ⟨g, 0, none⟩) n c) v' l i x := by
 have hz2 : ¬ ((i : Int) = (n : Int)) := by omega
 have hz3 : ¬ ((c : Int) < (n : Int) + 1) := by omega
 have r1 := fun W => run_cutw W g n c i (by omega) (by omega) (i : Int) rfl (n - i) (c - i) rfl rfl
 have r2 := fun W => run_headw W g n c ((n : Int) + 1) (n + 1) (by omega) hc
 have r3 := fun W => run_cutw W g (n + 1) c (i + 1) (by omega) (by omega) ((i : Int) + 1) (by omega) (n - i) (c - (i + 1)) (by omega) rfl
 have r4 := fun W => run_cutw W g (n + 1) c i (by omega) (by omega) (i : Int) rfl (n + 1 - i) (c - i) rfl rfl
 have x0 := @run_callFunc_extern Tryz.prog 84 _ (Extern.SlicesOverlaps.overlaps #[22, 22] #[4]) Tryz.func84 (by kernel_rfl) (by kernel_rfl) (by kernel_rfl) (by kernel_rfl)
 have sv : w.shape? vb = some (32, 6) := by
  unfold World.shape?
  rw [hv]
  rfl
 have sg : w.shape? g = some (32, cur.size) := by
  unfold World.shape?
  rw [hg]
 have fv : ∀ k, w.frozen? ⟨vb, k, none⟩ = false := fun k => frozen_of_row w vb k _ _ hv
 have hov : ∀ lb cb, (callFunc 84 #[.slice (some ⟨vb, 0, none⟩) 1 1, .slice (some ⟨g, (i + 1) * 6, none⟩) lb cb]).run Tryz.prog w = .ok (.value (.bool false)) w := fun lb cb => by
  rw [x0,
   Lib.run_overlaps_apart w 22 4 32 Tryz.underlying22 6 wr_size ⟨vb, 0, none⟩ ⟨g, (i + 1) * 6, none⟩ 1 1 lb cb hne 32 32 6 cur.size sv sg (by omega) (fv 0) (fv 6)]
  rfl
 clear x0 sv sg fv
 have hfl : ((l.flatMap wrCells).drop (i * 6)).length = (n - i) * 6 := by rw [List.length_drop, wflat, hn]; omega
 have hsp : ∀ j, j < (n + 1) * 6 → (w.cell? ⟨g, j, none⟩).isSome = true := fun j hj => isSome_row hg (by rw [hs]; omega)
 have hfz : ∀ j, w.frozen? ⟨g, j, none⟩ = false := fun j => frozen_of_row w g j cur _ hg
 have hsz : (Tryz.prog.info? 32).map (·.size) = some 6 := by kernel_rfl
 have hsrc : ∀ j v, ((l.flatMap wrCells).drop (i * 6))[j]? = some v → w.cell? ⟨g, i * 6 + j, none⟩ = some v := by
  intro j v hj
  rw [List.getElem?_drop, ← ht] at hj
  rw [cell_of_row w g _ cur _ (0, 0) hg]
  have hjl : i * 6 + j < n * 6 := by
   have := (List.getElem?_eq_some_iff.1 hj).1
   rw [List.length_take] at this
   omega
  rw [List.getElem?_take_of_lt hjl, Array.getElem?_toList] at hj
  exact hj
 have hcp1 : ∀ ty dc sc, (Builtin.copy_ #[22, 22] ty #[.slice (some ⟨g, (i + 1) * 6, none⟩) (n - i) dc, .slice (some ⟨g, i * 6, none⟩) (n + 1 - i) sc]).run Tryz.prog w.drew = .ok (goInt ((n - i : Nat) : Int)) (w.drew.setCells g ((i + 1) * 6) ((l.flatMap wrCells).drop (i * 6))) := fun ty dc sc =>
  run_copy_wide w.drew _ _ ty 32 g ((i + 1) * 6) (n - i) dc ⟨g, i * 6, none⟩ (n + 1 - i) sc (n - i) 6 _ Tryz.underlying22 hsz (by simp only [Nat.min_def]; split <;> omega) hfl
   (fun j v hj => by rw [Addr.add_lit]; exact hsrc j v hj)
   (fun j hj => hsp _ (by omega)) (fun j hj => hfz _) (fun v hv => wrCells_one v (List.mem_of_mem_drop hv))
 have hcp2 : ∀ ty dc, (Builtin.copy_ #[22, 22] ty #[.slice (some ⟨g, i * 6, none⟩) (n + 1 - i) dc, .slice (some ⟨vb, 0, none⟩) 1 1]).run Tryz.prog (w.drew.setCells g ((i + 1) * 6) ((l.flatMap wrCells).drop (i * 6))) = .ok (goInt 1) ((w.drew.setCells g ((i + 1) * 6) ((l.flatMap wrCells).drop (i * 6))).setCells g (i * 6) (wrCells x)) := fun ty dc =>
  run_copy_wide _ _ _ ty 32 g (i * 6) (n + 1 - i) dc ⟨vb, 0, none⟩ 1 1 1 6 (wrCells x) Tryz.underlying22 hsz (by simp only [Nat.min_def]; split <;> omega) rfl
   (fun j v hj => by
    rw [Addr.add_lit, World.cell?_setCells_out g _ _ _ _ (fun h _ => absurd h hne)]
    show w.cell? _ = _
    rw [Nat.zero_add, cell_of_row w vb _ _ _ (0, 0) hv]
    simpa using hj)
   (fun j hj => by
    have hj6 : j < 6 := hj
    exact isSome_setCells g ((l.flatMap wrCells).drop (i * 6)) ((i + 1) * 6) w.drew (fun j' hj' => hsp _ (by rw [hfl] at hj'; omega)) (i * 6 + j) (hsp _ (by omega)))
   (fun j hj => by rw [World.frozen?_setCells]; exact hfz _) (fun v hv => wrCells_one (l := [x]) v (by simpa using hv))
 have hfin : InsdW w ((w.drew.setCells g ((i + 1) * 6) ((l.flatMap wrCells).drop (i * 6))).setCells g (i * 6) (wrCells x)) B (.slice (some ⟨g, 0, none⟩) n c) (.slice (some ⟨g, 0, none⟩) (n + 1) c) l i x := by
  obtain ⟨cur1, k1, k2, k3⟩ := heap_setCells ((l.flatMap wrCells).drop (i * 6)) ((i + 1) * 6) w.drew cur hg (by rw [hfl, hs]; omega)
  obtain ⟨cur2, j1, j2, j3⟩ := heap_setCells (wrCells x) (i * 6) _ cur1 k1 (by rw [k2, hs]; show i * 6 + 6 ≤ _; omega)
  have T1 : Turned (fun j => (Value.slice (some ⟨g, 0, none⟩) n c).ownBlock = some j) w w.drew := .of_below (Below.refl _ _).drew
  refine ⟨?_, (T1.trans (.setCells _ g _ _ rfl)).trans (.setCells _ g _ _ rfl), fun g' hg' => .inl hg'⟩
  refine ⟨by rw [wflat, wIns_len], .inr ⟨g, c, cur2, by rw [hn], hBg, j1, by omega, hcm, by rw [j2, k2, hs], ?_⟩⟩
  have h6 : (wrCells x).length = 6 := rfl
  have hlx : (l.flatMap wrCells).length = n * 6 := by rw [wflat, hn]
  have := lst_shift_wide cur.toList (l.flatMap wrCells) (wrCells x) (i * 6) (by rw [hlx]; exact ht) (by rw [hlx]; omega) (by rw [hlx, h6, Array.length_toList, hs]; omega) (C1 := cur1.toList) (by rw [k3, h6, show (i + 1) * 6 = i * 6 + 6 by omega])
  rw [hlx, h6] at this
  rw [j3, h6, wIns_flat, show (l.length + 1) * 6 = n * 6 + 6 by omega]
  exact this
 have hcm63 : c ≤ 9223372036854775807 := by unfold maxLen at hcm; omega
 obtain ⟨hw1, hw3⟩ := w_inc (k := i) (by unfold maxLen; omega)
 obtain ⟨hw2, hw4⟩ := w_inc (k := n) (by unfold maxLen; omega)
 have HF := Lib.hid hfin
 obtain ⟨W1, hW1⟩ : ∃ W1, W1 = w.drew.setCells g ((i + 1) * 6) ((l.flatMap wrCells).drop (i * 6)) := ⟨_, rfl⟩
 rw [← hW1] at hcp1 hcp2 HF
 obtain ⟨W2, hW2⟩ : ∃ W2, W2 = W1.setCells g (i * 6) (wrCells x) := ⟨_, rfl⟩
 rw [← hW2] at hcp2 HF
 clear hn hs ht hv hg hBg hcm hfl hsp hfz hsz hsrc hfin hW1 hW2
 go_enter Tryz.func59, Tryz.ntmps59
 go_upto_region 15 with (simp only [hov])
 clear hov
 have mixed : Tryz.prog.follows .mixedOrders = true := by kernel_rfl
 go_wp2
 go_region_law_o (refine step_copy_runI rfl _ _ 22 22 rfl _ _ (by simp [Act.eval, Act.put]) (by simp [Act.eval, Act.put]) (hcp1 _ _ _) ?_)
 go_wp2_with (at_builtin; refine wpList_copy_runI _ rfl _ _ 22 22 rfl _ _ rfl rfl (hcp2 _ _) ?_)
 go_ret
 exact ⟨_, rfl, HF.out⟩
set_option maxHeartbeats 4000000 in
set_option maxRecDepth 100000 in
theorem insw_grow {w : World} {B g n c i : Nat} {l : List Wr} {cur : Array Value} (hg : w.heap[g]? = some (.cells cur 32 (0, 0))) (hn : n = l.length) (hs : cur.size = c * 6) (ht : cur.toList.take (n * 6) = l.flatMap wrCells) (hB : B ≤ w.heap.size)
  (hi : i < n) (hnc : n ≤ c) (hc : c < n + 1) (hbig : (n + 1) * 64 ≤ 140737488355328) (x : Wr) (vb : Nat) (hv : w.heap[vb]? = some (.cells (wrCells x).toArray 32 (0, 0))) :
  Calls Tryz.prog 59 #[.slice (some ⟨g, 0, none⟩) n c, .int .i64 (i : Int), .slice (some ⟨vb, 0, none⟩) 1 1] w fun e w' => ∃ v', e = .returned v' ∧ InsdW w w' B (.slice (some ⟨g, 0, none⟩) n c) v' l i x := by
 obtain ⟨i0, hi0, hz0, hzs, hzb⟩ := info_parts wrsInfo
 have hsz : (Tryz.prog.info? 32).map (·.size) = some 6 := by kernel_rfl
 have hz2 : ¬ ((i : Int) = (n : Int)) := by omega
 have hz3 : (c : Int) < (n : Int) + 1 := by omega
 have hgl : g < w.heap.size := (Array.getElem?_eq_some_iff.1 hg).1
 have hvl : vb < w.heap.size := (Array.getElem?_eq_some_iff.1 hv).1
 have hlx : (l.flatMap wrCells).length = n * 6 := by rw [wflat, hn]
 have hfl : ((l.flatMap wrCells).drop (i * 6)).length = (n - i) * 6 := by rw [List.length_drop, hlx]; omega
 have htl : ((l.flatMap wrCells).take (i * 6)).length = i * 6 := by rw [List.length_take, hlx]; omega
 have hall : ∀ j v, (l.flatMap wrCells)[j]? = some v → w.cell? ⟨g, j, none⟩ = some v := by
  intro j v hj
  rw [cell_of_row w g _ cur _ (0, 0) hg]
  rw [← ht] at hj
  have hjl : j < n * 6 := by
   have := (List.getElem?_eq_some_iff.1 hj).1
   rw [List.length_take] at this
   omega
  rw [List.getElem?_take_of_lt hjl, Array.getElem?_toList] at hj
  exact hj
 have hold : (Builtin.firstCells i0.size i (.slice (some ⟨g, 0, none⟩) i c)).run Tryz.prog w.drew = .ok ((l.flatMap wrCells).take (i * 6)).toArray w.drew := by
  rw [hzs]
  exact run_firstCells_some w.drew 6 i ⟨g, 0, none⟩ i c _ htl (fun j v hj => by
   rw [Addr.add_lit, Nat.zero_add]
   rw [List.getElem?_take] at hj
   split at hj
   ·exact hall j v hj
   ·cases hj)
 have hik : i + (n + 1 - i) = n + 1 := by omega
 have hrz : ∀ ty, (Builtin.append_ #[22, 3] ty #[.slice (some ⟨g, 0, none⟩) i c, .int .i64 ((n : Int) + 1 - (i : Int))]).run Tryz.prog w =
   .ok (.slice (some ⟨w.heap.size, 0, none⟩) (n + 1) (grownCap w (n + 1) c 32)) (w.drew.alloc (.cells (((l.flatMap wrCells).take (i * 6)).toArray ++ Builtin.zeroCells (Value.agg #[.int .i64 0, .int .i64 0, .int .i64 0, .string ⟨#[]⟩, .string ⟨#[]⟩, .int .i64 0]).cells (n + 1 - i) ++ Builtin.zeroCells (Value.agg #[.int .i64 0, .int .i64 0, .int .i64 0, .string ⟨#[]⟩, .string ⟨#[]⟩, .int .i64 0]).cells (grownCap w (n + 1) c 32 - (n + 1))) 32)) := fun ty => by
  have h := Lib.run_append_grow_zeros w 22 3 ty 32 i0 _ .i64 .i64 Tryz.underlying22 Tryz.underlying3 hi0 hz0 (some ⟨g, 0, none⟩) i c _ hold (n + 1 - i) (by omega) (by omega) (by omega) (by omega) (by rw [hzb]; omega) (by rw [hzb, hik]; exact growslice_fits hc hbig)
  rw [hik] at h
  rw [show (n : Int) + 1 - (i : Int) = ((n + 1 - i : Nat) : Int) by omega]
  exact h
 obtain ⟨G, hG⟩ : ∃ G, G = grownCap w (n + 1) c 32 := ⟨_, rfl⟩
 rw [← hG] at hrz
 have hGn : n + 1 ≤ G := by rw [hG]; exact grownCap_ge w _ _ _
 have hGm : G ≤ maxLen := by rw [hG]; exact grownCap_le_maxLen w (n + 1) c _ (by unfold maxLen; omega)
 obtain ⟨ROW, hROW⟩ : ∃ ROW : Array Value, ROW = ((l.flatMap wrCells).take (i * 6)).toArray ++ Builtin.zeroCells (Value.agg #[.int .i64 0, .int .i64 0, .int .i64 0, .string ⟨#[]⟩, .string ⟨#[]⟩, .int .i64 0]).cells (n + 1 - i) ++ Builtin.zeroCells (Value.agg #[.int .i64 0, .int .i64 0, .int .i64 0, .string ⟨#[]⟩, .string ⟨#[]⟩, .int .i64 0]).cells (G - (n + 1)) := ⟨_, rfl⟩
 rw [← hROW] at hrz
 have hRs : ROW.size = G * 6 := by
  rw [hROW]
  simp only [Array.size_append, List.size_toArray, htl, size_zeroCells]
  simp only [Value.cells]
  simp
  omega
 have hRt : ROW.toList.take (i * 6) = (l.flatMap wrCells).take (i * 6) := by
  rw [hROW]
  simp only [Array.toList_append, List.append_assoc]
  rw [List.take_append_of_le_length (by rw [htl]; exact Nat.le_refl _), List.take_of_length_le (by rw [htl]; exact Nat.le_refl _)]
 obtain ⟨W0, hW0⟩ : ∃ W0, W0 = w.drew.alloc (.cells ROW 32) := ⟨_, rfl⟩
 rw [← hW0] at hrz
 have h00 : W0.heap[w.heap.size]? = some (.cells ROW 32 (0, 0)) := by rw [hW0]; exact heap_alloc_new w.drew _
 have b0 : Below w.heap.size w W0 := by rw [hW0]; exact (Below.refl _ _).drew.alloc (Nat.le_refl _) _
 obtain ⟨cur1, k1, k2, k3⟩ := heap_setCells (wrCells x) (i * 6) W0 ROW h00 (by rw [hRs]; show i * 6 + 6 ≤ _; omega)
 have hcp1 : ∀ ty dc, (Builtin.copy_ #[22, 22] ty #[.slice (some ⟨w.heap.size, i * 6, none⟩) (n + 1 - i) dc, .slice (some ⟨vb, 0, none⟩) 1 1]).run Tryz.prog W0 = .ok (goInt 1) (W0.setCells w.heap.size (i * 6) (wrCells x)) := fun ty dc =>
  run_copy_wide _ _ _ ty 32 w.heap.size (i * 6) (n + 1 - i) dc ⟨vb, 0, none⟩ 1 1 1 6 (wrCells x) Tryz.underlying22 hsz (by simp only [Nat.min_def]; split <;> omega) rfl
   (fun j v hj => by
    rw [Addr.add_lit, Nat.zero_add]
    refine (b0.cell (p := ⟨vb, j, none⟩) hvl).trans ?_
    rw [cell_of_row w vb _ _ _ (0, 0) hv]
    simpa using hj)
   (fun j hj => isSome_row h00 (by have hj6 : j < 6 := hj; rw [hRs]; omega))
   (fun j hj => frozen_of_row W0 _ _ ROW _ h00) (fun v hv => wrCells_one (l := [x]) v (by simpa using hv))
 obtain ⟨W1, hW1⟩ : ∃ W1, W1 = W0.setCells w.heap.size (i * 6) (wrCells x) := ⟨_, rfl⟩
 rw [← hW1] at hcp1 k1
 have T0 : Turned (fun j => w.heap.size ≤ j) w W0 := .of_below b0
 have T1 : Turned (fun j => w.heap.size ≤ j) w W1 := by rw [hW1]; exact T0.trans (.setCells _ w.heap.size _ _ (Nat.le_refl _))
 have k1' : W1.drew.heap[w.heap.size]? = some (.cells cur1 32 (0, 0)) := k1
 obtain ⟨cur2, j1, j2, j3⟩ := heap_setCells ((l.flatMap wrCells).drop (i * 6)) ((i + 1) * 6) W1.drew cur1 k1' (by rw [hfl, k2, hRs]; omega)
 have hcp2 : ∀ ty dc sc, (Builtin.copy_ #[22, 22] ty #[.slice (some ⟨w.heap.size, (i + 1) * 6, none⟩) (n - i) dc, .slice (some ⟨g, i * 6, none⟩) (n - i) sc]).run Tryz.prog W1.drew = .ok (goInt ((n - i : Nat) : Int)) (W1.drew.setCells w.heap.size ((i + 1) * 6) ((l.flatMap wrCells).drop (i * 6))) := fun ty dc sc =>
  run_copy_wide W1.drew _ _ ty 32 w.heap.size ((i + 1) * 6) (n - i) dc ⟨g, i * 6, none⟩ (n - i) sc (n - i) 6 _ Tryz.underlying22 hsz (Nat.min_self _) hfl
   (fun j v hj => by
    rw [Addr.add_lit]
    rw [List.getElem?_drop] at hj
    exact T1.cell (a := ⟨g, i * 6 + j, none⟩) (hall _ v hj) (by simp only; omega))
   (fun j hj => isSome_row k1' (by rw [hfl] at hj; rw [k2, hRs]; omega)) (fun j hj => frozen_of_row W1.drew _ _ cur1 _ k1') (fun v hv => wrCells_one v (List.mem_of_mem_drop hv))
 obtain ⟨W2, hW2⟩ : ∃ W2, W2 = W1.drew.setCells w.heap.size ((i + 1) * 6) ((l.flatMap wrCells).drop (i * 6)) := ⟨_, rfl⟩
 rw [← hW2] at hcp2 j1
 have T2 : Turned (fun j => w.heap.size ≤ j) w W2 := by rw [hW2]; exact (T1.trans (.of_below (w' := W1.drew) (Below.refl _ _).drew)).trans (.setCells _ w.heap.size _ _ (Nat.le_refl _))
 have hfin : InsdW w W2 B (.slice (some ⟨g, 0, none⟩) n c) (.slice (some ⟨w.heap.size, 0, none⟩) (n + 1) G) l i x := by
  refine ⟨⟨by rw [wflat, wIns_len], .inr ⟨w.heap.size, G, cur2, by rw [hn], hB, j1, by omega, hGm, by rw [j2, k2, hRs], ?_⟩⟩, ⟨T2.os, T2.tape, T2.output, T2.size, fun k hk _ => T2.block k hk (by omega)⟩, fun g' hg' => ?_⟩
  ·have h6 : (wrCells x).length = 6 := rfl
   have hc1 : cur1.toList.take ((i + 1) * 6) = (l.flatMap wrCells).take (i * 6) ++ wrCells x := by
    rw [k3, hRt, h6]
    rw [List.take_append_of_le_length (by rw [List.length_append, htl, h6]; omega), List.take_of_length_le (by rw [List.length_append, htl, h6]; omega)]
   rw [j3, hc1, wIns_flat]
   rw [List.take_append_of_le_length (by simp only [List.length_append, htl, h6, hfl]; omega), List.take_of_length_le (by simp only [List.length_append, htl, h6, hfl]; omega)]
  ·injection hg' with hg'
   simp only at hg'
   exact .inr (by omega)
 have HF := Lib.hid hfin
 have r1 := fun W => run_cutw W g n c i (by omega) (by omega) (i : Int) rfl (n - i) (c - i) rfl rfl
 have r2 := fun W => run_headw W g n c (i : Int) i rfl (by omega)
 have r3 := fun W => run_cutw W w.heap.size (n + 1) G i (by omega) (by omega) (i : Int) rfl (n + 1 - i) (G - i) rfl rfl
 have r4 := fun W => run_cutw W w.heap.size (n + 1) G (i + 1) (by omega) (by omega) ((i : Int) + 1) (by omega) (n - i) (G - (i + 1)) (by omega) rfl
 obtain ⟨H, hH⟩ : ∃ H, H = w.heap.size := ⟨_, rfl⟩
 rw [← hH] at hrz hcp1 hcp2 HF r3 r4
 have hcm63 : c ≤ 9223372036854775807 := by omega
 have WI := Lib.hid (ins_wraps (i := i) (n := n) (by omega) (by omega))
 have mixed : Tryz.prog.follows .mixedOrders = true := by kernel_rfl
 clear hn hs ht hv hg hB hbig hi0 hz0 hzs hzb hsz hgl hvl hlx hfl htl hall hold hik hG hROW hRs hRt hW0 h00 b0 k1 k2 k3 T0 hW1 T1 k1' j1 j2 j3 hW2 T2 hfin hH
 have d1 : decide ((c : Int) < (n : Int) + 1) = true := decide_eq_true hz3
 clear hi hnc hc hcm63 hGm hGn
 obtain ⟨⟨hw1, hw3⟩, ⟨hw2, hw4⟩, hw5, hw6⟩ := WI.out
 go_enter Tryz.func59, Tryz.ntmps59
 go_wp2_with (first
  | (at_builtin; refine Lib.wpList_append_run _ rfl _ _ _ _ rfl _ _ rfl rfl _ _ (hrz _) ?_)
  | (at_builtin; refine wpList_copy_runI _ rfl _ _ 22 22 rfl _ _ rfl rfl (hcp1 _ _) ?_))
 go_region_law_o (refine step_copy_runI rfl _ _ 22 22 rfl _ _ (by simp [Act.eval, Act.put]) (by simp [Act.eval, Act.put]) (hcp2 _ _ _) ?_)
 go_wp2
 go_ret
 exact ⟨_, rfl, HF.out⟩
theorem rc_block {w : World} {b : Nat} {t : TypeId} {cs : List Value} (h : w.heap[b]? = some (.cells cs.toArray t (0, 0))) : RC w b cs := fun i v hv => by
 refine ⟨?_, frozen_of_row w _ _ _ _ h⟩
 rw [cell_of_row w b _ _ _ (0, 0) h]
 simpa using hv
theorem insw_any {w : World} {B : Nat} {A : Option Addr} {n c : Nat} {l : List Wr} (ho : w.ownsRow B 32 6 (.slice A n c) l.length (l.flatMap wrCells)) (i : Nat) (hi : i ≤ l.length) (x : Wr) (vb : Nat)
  (hl : (l.length + 1) * 64 ≤ 140737488355328) (hB : B ≤ w.heap.size) (hv : w.heap[vb]? = some (.cells (wrCells x).toArray 32 (0, 0))) (hne : (Value.slice A n c).ownBlock ≠ some vb) :
  Calls Tryz.prog 59 #[.slice A n c, .int .i64 (i : Int), .slice (some ⟨vb, 0, none⟩) 1 1] w fun e w' => ∃ v', e = .returned v' ∧ InsdW w w' B (.slice A n c) v' l i x := by
 rcases Nat.lt_or_ge i l.length with h | h
 ·rcases ho.2 with ⟨_, h0⟩ | ⟨g, cap, cur, e, hBg, hg, h1, h2, h3, h4⟩
  ·omega
  ·injection e with e1 e2 e3
   subst e1 e2 e3
   rcases Nat.lt_or_ge c (l.length + 1) with hc | hc
   ·exact insw_grow hg rfl h3 h4 hB h h1 hc hl x vb hv
   ·exact insw_shift hg rfl h3 h4 hBg h2 h hc x vb hv (fun e => hne (by rw [e]; rfl))
 ·obtain rfl : i = l.length := by omega
  exact insw_end ho x vb hl hB (rc_block hv)
end Go.Proofs.YtlpkpfpmcppciaaGreatDoor
end
