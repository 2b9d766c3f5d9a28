/- The Go function Tokens of package match computes what the plain function tokens says. -/
import Derived.Test.YtkejlnjnoiidnaaGreatDoorZ4
import Derived.Test.YtkejlnjnoiidnaaGreatDoorZ2
import Derived.OwnWalk
import Derived.Maps.AppendAt
import Derived.KernelRfl
import Derived.Deep.DeepCutAuto
import Derived.Deep.Cut
import Derived.Deep.CutBlock
import Derived.Laws.OwnMore
import Derived.StillTailTactics
import Derived.Test.YtkejlnjnoiidnaaGreatDoorZ1
import Derived.Deep.QuietTactic
import Derived.BigQuiet
import Derived.Deep.RegionHeld3
import Derived.Deep.RegionWith
set_option linter.unusedSimpArgs false
set_option linter.unusedVariables false
section
namespace Go.Proofs.YtkejlnjnoiidnaaGreatDoor.Tokens
open Go.RowKit Match
theorem zqe : (Tryz.prog.info? 174).map (fun i => (i.zero, i.size, i.bytes)) = some (some (.agg #[.string ⟨#[]⟩, .int .i64 0, .int .i64 0]), 3, 32) := by kernel_rfl
theorem zdl (w : World) (c : Array Value) (t : TypeId) : ∀ j u, c.toList[j]? = some u → (w.alloc (.cells c t)).cell? ((⟨w.heap.size, 0, none⟩ : Addr).add j) = some u := by
 intro j u hu;have hadd : (⟨w.heap.size, 0, none⟩ : Addr).add j = ⟨w.heap.size, j, none⟩ := by unfold Addr.add; split <;> simp_all
 rw [hadd, World.cell?_alloc_new];simpa using hu
theorem yaz : (ByteArray.empty) = ⟨#[]⟩ := rfl
theorem zii (p n : Nat) : (p : Int) + (n : Int) = ((p + n : Nat) : Int) := by omega
theorem zql {s : ByteArray} {k p o n : Nat} {done D : List Tok} (hX : ⟨p, o, done⟩ = st s k) (hS : step s ⟨p, o, done⟩ = ⟨p + n, p + n, D⟩) : (⟨p + n, p + n, D⟩ : St) = st s (k + 1) := by rw [st_succ, ← hX, hS]
abbrev tokV (l : List Tok) : List Value := l.flatMap zeq
set_option maxRecDepth 100000 in
theorem yak (s : ByteArray) (w : World) (hs : s.size ≤ 100000) :
  Calls Tryz.prog 96 #[.string s] w fun e w' => ∃ v, e = .returned v ∧ w'.ownsRow w.heap.size 174 3 v (tokens s).length (tokV (tokens s)) ∧ Below w.heap.size w w' := by
 obtain ⟨i0, hi, hz0, hz1, hz2⟩ := info_parts zqe;go_enter Tryz.func96, Tryz.ntmps96;go_wp2;go_loopw [3, 4, 5, 6, 7] (fun v o a _ _ wr => ∃ k : Nat, ∃ x : St, x = st s k ∧ x.own ≤ x.at_ ∧ x.at_ ≤ s.size ∧ x.done.length ≤ x.own ∧ o = .int .i64 x.own ∧ a = .int .i64 x.at_ ∧ wr.ownsRow w.heap.size 174 3 v x.done.length (tokV x.done) ∧ Below w.heap.size w wr) (fun _ _ a _ _ _ => s.size - (intOf a).toNat)
 case atStart => exact ⟨0, ⟨0, 0, []⟩, rfl, Nat.le_refl _, Nat.zero_le _, Nat.le_refl _, rfl, rfl, World.ownsRow_nil _ _ _ _, Below.refl _ _⟩
 case round =>
  obtain ⟨k, x, hx, h1, h2, h3, rfl, rfl, hT, hbel⟩ := hrel;obtain ⟨p, o, done⟩ := x;have hX := Lib.hid hx;clear hx;simp only at h1 h2 h3 hT;have hB := hbel.size;by_cases hlt : p < s.size
  ·have hfe := zlu s.data.toList p (by simpa using h2);have hfl := zqq s.data.toList p;go_wp2_with fail;refine (ylj s p wr (by omega) hlt).mono ?_;rintro e wq ⟨rfl, q, hq⟩;have hTq : wq.ownsRow w.heap.size 174 3 u3 done.length (tokV done) := by rw [hq]; exact hT
   have hbq : Below w.heap.size w wq := by rw [hq]; exact below_drewN hbel q
   have hBq := hbq.size;clear hq hT hbel hB;rw [Int.toNat_natCast];obtain ⟨b, hb⟩ : ∃ b, b = (find s.data.toList p).1 := ⟨_, rfl⟩;obtain ⟨n, hn⟩ : ∃ n, n = (find s.data.toList p).2 := ⟨_, rfl⟩;have hstep := fun hz => step_none s ⟨p, o, done⟩ hlt hz
   have hstep2 := fun hz => step_some s ⟨p, o, done⟩ hlt hz
   have hnext := Lib.hid (st_succ s k);simp only at hstep hstep2;rw [← hn] at hfe hfl hstep hstep2;rw [← hb] at hfl hstep2;rw [← hb, ← hn];clear hb hn;have hpn : p + n < 1000000 := by omega
   have hfe := Lib.hid hfe;by_cases hn0 : n = 0
   ·subst hn0;have hS := Lib.hid (hstep rfl);clear hstep hstep2;go_wp2_with fail;go_roundw
    case rel => exact ⟨k + 1, ⟨p + 1, o, done⟩, by rw [hnext.out, ← hX.out, hS.out], by simp; omega, by simp; omega, h3, rfl, by go_num, hTq, hbq⟩
    case measure => simp [intOf]; omega
   ·have hnb : ((n : Int) == 0) = false := beq_eq_false_iff_ne.2 (by omega);have hS := hstep2 hn0;clear hstep hstep2;by_cases hown : o < p
    ·rw [zjk s ⟨p, o, done⟩ hown] at hS;simp only at hS;have hS' := Lib.hid hS;clear hS;go_wp2_with (first
      | (at_builtin; refine wpList_append_own _ rfl (.tmp 25) (.tmp 31) 130 rfl w.heap.size 174 i0 (.agg #[.string ⟨#[]⟩, .int .i64 0, .int .i64 0]) 3 32 Tryz.underlying130 hi hz0 hz1 hz2 rfl (by decide) u3 done.length (tokV done) rfl (hTq.alloc _) ⟨wq.heap.size, 0, none⟩ 1 1 [.string (s.extract o p), .int .i64 0, .int .i64 0] rfl rfl (zdl _ #[.string (s.extract o p), .int .i64 0, .int .i64 0] _) (by intro u hu; simp at hu; rcases hu with rfl | rfl <;> rfl) (by unfold maxLen; omega) (by omega) (by simp; omega) ?_; intro v1 w1 hT1 hg1 _; have hb1 := zaj (hbq.alloc hBq _) hg1 (by simp; omega) (hTq.alloc _))
      | (at_builtin; refine wpList_append_own _ rfl (.tmp 33) (.tmp 37) 130 rfl w.heap.size 174 i0 (.agg #[.string ⟨#[]⟩, .int .i64 0, .int .i64 0]) 3 32 Tryz.underlying130 hi hz0 hz1 hz2 rfl (by decide) v1 (done.length + 1) _ rfl (hT1.alloc _) ⟨w1.heap.size, 0, none⟩ 1 1 [.string ⟨#[]⟩, .int .i64 (b : Int), .int .i64 (n : Int)] rfl rfl (zdl _ #[.string ⟨#[]⟩, .int .i64 (b : Int), .int .i64 (n : Int)] _) (by intro u hu; simp at hu; rcases hu with rfl | rfl | rfl <;> rfl) (by unfold maxLen; omega) (by omega) (by have := hb1.size; simp; omega) ?_; intro v2 w2 hT2 hg2 _; have hb2 := zaj (hb1.alloc hb1.size _) hg2 (by have := hb1.size; simp; omega) (hT1.alloc _)))
     go_roundw
     case rel =>
      rw [zii p n];refine ⟨k + 1, ⟨p + n, p + n, _⟩, zql hX.out hS'.out, Nat.le_refl _, hfe.out, by simp; omega, rfl, rfl, ?_, hb2⟩;simpa [tokV, zeq, List.flatMap_append, yaz] using hT2
     case measure =>
      rw [zii p n];simp [intOf]; omega
    ·rw [zlo s ⟨p, o, done⟩ hown] at hS;simp only at hS;have hS' := Lib.hid hS;clear hS;have hop : ¬ (o : Int) < (p : Int) := by omega
     go_wp2_with (first
      | (at_builtin; refine wpList_append_own _ rfl (.tmp 33) (.tmp 37) 130 rfl w.heap.size 174 i0 (.agg #[.string ⟨#[]⟩, .int .i64 0, .int .i64 0]) 3 32 Tryz.underlying130 hi hz0 hz1 hz2 rfl (by decide) u3 done.length (tokV done) rfl (hTq.alloc _) ⟨wq.heap.size, 0, none⟩ 1 1 [.string ⟨#[]⟩, .int .i64 (b : Int), .int .i64 (n : Int)] rfl rfl (zdl _ #[.string ⟨#[]⟩, .int .i64 (b : Int), .int .i64 (n : Int)] _) (by intro u hu; simp at hu; rcases hu with rfl | rfl | rfl <;> rfl) (by unfold maxLen; omega) (by omega) (by simp; omega) ?_; intro v2 w2 hT2 hg2 _; have hb2 := zaj (hbq.alloc hbq.size _) hg2 (by simp; omega) (hTq.alloc _)))
     go_roundw
     case rel =>
      rw [zii p n];refine ⟨k + 1, ⟨p + n, p + n, _⟩, zql hX.out hS'.out, Nat.le_refl _, hfe.out, by simp; omega, rfl, rfl, ?_, hb2⟩;simpa [tokV, zeq, List.flatMap_append, yaz] using hT2
     case measure =>
      rw [zii p n];simp [intOf]; omega
  ·have hpe : p = s.size := by omega
   have hend := Lib.hid (yjc s k (by rw [← hX.out]; simp only; omega));subst hpe;have hlt' : ¬ ((s.size : Nat) : Int) < ((s.size : Nat) : Int) := by omega
   by_cases hown : o < s.size
   ·have hF := Lib.hid (zjk s ⟨s.size, o, done⟩ hown);go_wp2_with (first
      | (at_builtin; refine wpList_append_own _ rfl (.tmp 47) (.tmp 52) 130 rfl w.heap.size 174 i0 (.agg #[.string ⟨#[]⟩, .int .i64 0, .int .i64 0]) 3 32 Tryz.underlying130 hi hz0 hz1 hz2 rfl (by decide) u3 done.length (tokV done) rfl (hT.alloc _) ⟨wr.heap.size, 0, none⟩ 1 1 [.string (s.extract o s.size), .int .i64 0, .int .i64 0] rfl rfl (zdl _ #[.string (s.extract o s.size), .int .i64 0, .int .i64 0] _) (by intro u hu; simp at hu; rcases hu with rfl | rfl <;> rfl) (by unfold maxLen; omega) (by omega) (by simp; omega) ?_; intro v1 w1 hT1 hg1 _; have hb1 := zaj (hbel.alloc hB _) hg1 (by simp; omega) (hT.alloc _)))
    go_ret;refine ⟨_, rfl, ?_, hb1⟩;rw [← hend.out, ← hX.out, hF.out];simpa [tokV, zeq, List.flatMap_append] using hT1
   ·have hF := Lib.hid (zlo s ⟨s.size, o, done⟩ hown);go_wp2_with fail;go_ret;refine ⟨_, rfl, ?_, hbel⟩;rw [← hend.out, ← hX.out, hF.out];exact hT
end Go.Proofs.YtkejlnjnoiidnaaGreatDoor.Tokens
end

section
namespace Go.Proofs.YtkejlnjnoiidnaaGreatDoor.Tokens
open Go.RowKit Match
theorem yjq (s : ByteArray) (k : Nat) : (st s k).done = [] ∨ ∃ d b n, (st s k).done = d ++ [(ByteArray.empty, b, n)] := by
 induction k with
 | zero => exact .inl rfl
 | succ k ih =>
  rw [st_succ];by_cases hlt : (st s k).at_ < s.size
  ·by_cases hz : (find s.data.toList (st s k).at_).2 = 0
   ·rw [step_none s _ hlt hz]; exact ih
   ·rw [step_some s _ hlt hz]; exact .inr ⟨_, _, _, rfl⟩
  ·unfold step; rw [if_neg hlt]; exact ih
theorem zqu {w : World} {B : Nat} {e : TypeId} {size : Nat} {v : Value} {n : Nat} {xs : List Value} (h : w.ownsRow B e size v n xs) (hn : 0 < n) : ∃ g c, v = .slice (some ⟨g, 0, none⟩) n c ∧ B ≤ g ∧ g < w.heap.size := by
 rcases h.2 with ⟨_, h0⟩ | ⟨g, cap, cur, hv, hb, hh, _⟩
 ·omega
 ·exact ⟨g, cap, hv, hb, (Array.getElem?_eq_some_iff.1 hh).1⟩
theorem zrl (s : ByteArray) (o p : Nat) (h1 : o ≤ p) (_h2 : p < s.size) : s.extract o p ++ s.extract p (p + 1) = s.extract o (p + 1) := by
 rw [ByteArray.extract_append_extract];congr 1 <;> omega
theorem zqj (s : ByteArray) (p o : Nat) (d : List Tok) (h1 : o ≤ p) : flush s ⟨p + 1, o, d⟩ = d ++ [(s.extract o (p + 1), 0, 0)] := zjk s _ (by simp only; omega)
theorem ynq (s : ByteArray) (o p : Nat) (h : o < p) (h2 : p ≤ s.size) : (s.extract o p).toList.isEmpty = false := by
 rw [List.isEmpty_eq_false_iff];intro e;have h3 := congrArg List.length e;rw [ByteArray.toList_eq] at h3;simp at h3;omega
theorem yhz (s : ByteArray) (o p : Nat) (h : o = p) : s.extract o p = ⟨#[]⟩ := by
 subst h;apply ByteArray.ext;simp
theorem zlv (d e : List Tok) : tokV (d ++ e) = tokV d ++ tokV e := List.flatMap_append
theorem zlx (d : List Tok) : (tokV d).length = d.length * 3 := by
 induction d with
 | nil => rfl
 | cons x d ih => simp [tokV, zeq] at ih ⊢; omega
theorem ybz (d : List Tok) (x : ByteArray) (y z : Int) : (tokV (d ++ [(x, y, z)]))[d.length * 3]? = some (.string x) := by
 rw [zlv, List.getElem?_append_right (by rw [zlx]; exact Nat.le_refl _), zlx, Nat.sub_self];rfl
theorem ymb (d : List Tok) (x x' : ByteArray) (y z : Int) : (tokV (d ++ [(x, y, z)])).set (d.length * 3) (.string x') = tokV (d ++ [(x', y, z)]) := by
 rw [zlv, zlv, List.set_append_right _ _ (by rw [zlx]; exact Nat.le_refl _), zlx, Nat.sub_self];rfl
theorem zqz (d : List Tok) (n : Nat) (hn : d.length = n) (x x' : ByteArray) (y z : Int) : (tokV (d ++ [(x, y, z)])).set (n * 3) (.string x') = tokV (d ++ [(x', y, z)]) := by rw [← hn]; exact ymb d x x' y z
theorem ycz {w : World} {B T n : Nat} {v : Value} {D : List Tok} {E0 : ByteArray} (h : w.ownsRow B T 3 v (n + 1) (tokV D ++ [.string ⟨#[]⟩, .int .i64 0, .int .i64 0])) (hn : D.length = n) (hE : E0 = ⟨#[]⟩) :
  ∃ g c, v = .slice (some ⟨g, 0, none⟩) (n + 1) c ∧ B ≤ g ∧ w.ownsRow B T 3 (.slice (some ⟨g, 0, none⟩) (n + 1) c) (n + 1) (tokV (D ++ [(E0, 0, 0)])) ∧ w.cell? ⟨g, n * 3, none⟩ = some (.string E0) ∧ w.frozen? ⟨g, n * 3, none⟩ = false := by
 obtain ⟨g, c, rfl, hg, _⟩ := zqu h (by omega);subst hn hE;have h2 : w.ownsRow B T 3 (.slice (some ⟨g, 0, none⟩) (D.length + 1) c) (D.length + 1) (tokV (D ++ [(⟨#[]⟩, 0, 0)])) := by rw [zlv]; exact h
 refine ⟨g, c, rfl, hg, h2, ?_, h2.frozenAt _⟩;rw [h2.cellAt (D.length * 3) (by omega)];exact ybz D _ _ _
set_option maxHeartbeats 1000000 in
set_option maxRecDepth 100000 in
theorem zvc (s : ByteArray) (w : World) (hs : s.size ≤ 100000) :
  Calls Tryz.prog 94 #[.string s] w fun e w' => ∃ v, e = .returned v ∧ w'.ownsRow w.heap.size 174 3 v (tokens s).length (tokV (tokens s)) ∧ Below w.heap.size w w' := by
 obtain ⟨i0, hi, hz0, hz1, hz2⟩ := info_parts zqe;go_enter Tryz.func94, Tryz.ntmps94;go_wp2;go_loopw [3, 4, 5, 6] (fun v a _ _ wr => ∃ k : Nat, ∃ x : St, x = st s k ∧ x.own ≤ x.at_ ∧ x.at_ ≤ s.size ∧ x.done.length ≤ x.own ∧ a = .int .i64 x.at_ ∧ wr.ownsRow w.heap.size 174 3 v (flush s x).length (tokV (flush s x)) ∧ Below w.heap.size w wr) (fun _ a _ _ _ => s.size - (intOf a).toNat)
 case atStart => exact ⟨0, ⟨0, 0, []⟩, rfl, Nat.le_refl _, Nat.zero_le _, Nat.le_refl _, rfl, World.ownsRow_nil _ _ _ _, Below.refl _ _⟩
 case round =>
  obtain ⟨k, x, hx, h1, h2, h3, rfl, hT, hbel⟩ := hrel;have hla := yjq s k;rw [← hx] at hla;obtain ⟨p, o, done⟩ := x;have hX := Lib.hid hx;clear hx;simp only at h1 h2 h3 hT hla;have hB := hbel.size;by_cases hlt : p < s.size
  ·have hfe := Nat.le_trans (zlu s.data.toList p (by simpa using h2)) (Nat.le_of_eq (show s.data.toList.length = s.size by simp));have hfl := zqq s.data.toList p;go_wp2_with fail;refine (yfn s p wr (by omega) hlt).mono ?_;rintro e wq ⟨rfl, q, hq⟩;have hTq : wq.ownsRow w.heap.size 174 3 u3 (flush s ⟨p, o, done⟩).length (tokV (flush s ⟨p, o, done⟩)) := by rw [hq]; exact hT
   have hbq : Below w.heap.size w wq := by rw [hq]; exact below_drewN hbel q
   have hBq := hbq.size;clear hq hT hbel hB;rw [Int.toNat_natCast];obtain ⟨b, hb⟩ : ∃ b, b = (find s.data.toList p).1 := ⟨_, rfl⟩;obtain ⟨n, hn⟩ : ∃ n, n = (find s.data.toList p).2 := ⟨_, rfl⟩;have hstep := fun hz => step_none s ⟨p, o, done⟩ hlt hz
   have hstep2 := fun hz => step_some s ⟨p, o, done⟩ hlt hz
   have hnext := Lib.hid (st_succ s k);simp only at hstep hstep2;rw [← hn] at hfe hfl hstep hstep2;rw [← hb] at hfl hstep2;rw [← hb, ← hn];clear hb hn;have hpn : p + n < 1000000 := by omega
   have hfe := Lib.hid hfe;have hfl2 := zms s ⟨p, o, done⟩ h3 h1;simp only at hfl2;by_cases hn0 : n = 0
   ·subst hn0;have hS := Lib.hid (hstep rfl);clear hstep hstep2;by_cases hown : o < p
    ·have hF := zjk s ⟨p, o, done⟩ hown;simp only at hF;rw [hF] at hTq hfl2;rw [show (done ++ [(s.extract o p, (0 : Int), (0 : Int))]).length = done.length + 1 from by simp] at hTq hfl2;obtain ⟨g, c, rfl, hg0, hg1⟩ := zqu hTq (by omega);have hne : ((s.extract o p).size == 0) = false := by simp; omega
     have hc0 : wq.cell? ⟨g, done.length * 3, none⟩ = some (.string (s.extract o p)) := by
      rw [hTq.cellAt _ (by omega)];exact ybz done _ _ _
     have hf0 : wq.frozen? ⟨g, done.length * 3, none⟩ = false := hTq.frozenAt _;have he : (s.extract o p).toList.isEmpty = false := ynq s o p hown h2;have hz0 : (((done.length : Nat) : Int) + 1 == 0) = false := beq_eq_false_iff_ne.2 (by omega);have hlt3 : ((p : Nat) : Int) + 1 ≤ (s.size : Int) := by omega
     generalize hE : s.extract o p = E at *;have hE' := Lib.hid hE;clear hE;have hTh := Lib.hid hTq;clear hTq;go_wp2_with fail;have hEs : E.size ≤ s.size := by rw [← hE'.out, ByteArray.size_extract]; omega
     have hEs : E.size ≤ s.size := by rw [← hE'.out, ByteArray.size_extract]; omega
     have hEs : E.size ≤ s.size := by rw [← hE'.out, ByteArray.size_extract]; omega
     have hEs : E.size ≤ s.size := by rw [← hE'.out, ByteArray.size_extract]; omega
     have hEs : E.size ≤ s.size := by rw [← hE'.out, ByteArray.size_extract]; omega
     have hEs : E.size ≤ s.size := by rw [← hE'.out, ByteArray.size_extract]; omega
     have hEs : E.size ≤ s.size := by rw [← hE'.out, ByteArray.size_extract]; omega
     have hwn : IntKind.i64.wrap ((((done).length : Nat) : Int)) = (((done).length : Nat) : Int) := IntWalk.i64_in _ (by omega);have hwp : IntKind.i64.wrap (((p : Nat) : Int) + 1) = ((p : Nat) : Int) + 1 := IntWalk.i64_in _ (by omega);have hin : (0 : Int) ≤ (((done).length : Nat) : Int) ∧ (((done).length : Nat) : Int) < (((done).length : Nat) : Int) + 1 := by omega
     have htn : ((((done).length : Nat) : Int)).toNat = (done).length := by omega
     have hp1 : (0 : Int) ≤ ((p : Nat) : Int) + 1 := by omega
     have hp2 : ((p : Nat) : Int) ≤ ((p : Nat) : Int) + 1 := by omega
     have hc1 : (wq).drew.cell? ⟨g, (done).length * 3, none⟩ = some (.string E) := hc0;have hsz : ¬ 9223372036854775807 < (E).size + (min (p + 1) s.size - p) := by have := hEs; omega
     refine wp_region_still_tail 13 (by kernel_rfl) (by kernel_rfl) ?_;simp only [List.take_succ_cons, List.take_zero, List.drop_succ_cons, List.drop_zero];repeat (refine wpStill_step (fun K hK => ?_); go_simp; (try simp only [hwn, hwp, if_pos hin, if_pos hp1, if_pos hp2, if_neg hsz, htn, Int.toNat_natCast, hc1]); (try go_simp); refine hK _ ?_; clear hK K)
     refine wpStill_nil ?_;change wpList _ _ _ _ _ (wq).drew;go_wp2;go_roundw
     case rel =>
      have hst := hTh.out.stored ((done).length * 3) (.string (E ++ s.extract p (p + 1)));have hset := zqz (done) (done).length rfl E (E ++ s.extract p (p + 1)) 0 0;refine ⟨k + 1, ⟨p + 1, o, done⟩, ?_, ?_⟩
      ·rw [hnext.out, ← hX.out, hS.out]
      ·refine ⟨by simp; omega, by simp; omega, h3, by go_num, ?_, ?_⟩
       ·rw [zqj s p o _ h1, ← zrl s o p h1 hlt, hE'.out, ← hset, show (done ++ [(E ++ s.extract p (p + 1), (0 : Int), (0 : Int))]).length = (done).length + 1 from by (rw [List.length_append, show (done).length = (done).length from rfl]; rfl)];exact hst.1
       ·exact Below.setCell (below_drewN hbq 1) hg0 _
     case measure => simp [intOf]; omega
    ·have hF := zlo s ⟨p, o, done⟩ hown;simp only at hF;rw [hF] at hTq hfl2;have hlt3 : ((p : Nat) : Int) + 1 ≤ (s.size : Int) := by omega
     have hop : o = p := by omega
     obtain ⟨E0, hE0⟩ : ∃ E0 : ByteArray, E0 = ⟨#[]⟩ := ⟨_, rfl⟩;have hEs : E0.size ≤ s.size := by rw [hE0]; exact Nat.zero_le _
     have hE' := Lib.hid (show s.extract o p = E0 from (yhz s o p hop).trans hE0.symm);have hE1 := Lib.hid hE0;clear hE0;rcases hla with hd | ⟨d, b', n', hd⟩
     ·subst hd;obtain ⟨A, c, rfl⟩ := zah hTq;simp only [List.length_nil] at hTq hfl2;go_wp2_with (first
       | (at_builtin; go_loud (refine wpList_append_own _ rfl (.tmp 41) (.tmp 43) 130 rfl w.heap.size 174 i0 (.agg #[.string ⟨#[]⟩, .int .i64 0, .int .i64 0]) 3 32 Tryz.underlying130 hi hz0 hz1 hz2 rfl (by decide) _ 0 (tokV (([] : List Tok))) rfl (hTq.alloc _) ⟨wq.heap.size, 0, none⟩ 1 1 [.string ⟨#[]⟩, .int .i64 0, .int .i64 0] rfl rfl (zdl _ #[.string ⟨#[]⟩, .int .i64 0, .int .i64 0] _) (by intro u hu; simp at hu; rcases hu with rfl | rfl | rfl <;> rfl) (by unfold maxLen; omega) (by omega) (by simp; omega) ?_; intro v2 w2 hT2 hg2 _; have hb2 := zaj (hbq.alloc hbq.size _) hg2 (by simp; omega) (hTq.alloc _); obtain ⟨g, c', rfl, hg0, hTn, hc2, hf2⟩ := ycz hT2 rfl hE1.out; have hTh := Lib.hid hTn; clear hTn hT2)))
      have hwn : IntKind.i64.wrap ((0 : Int)) = (0 : Int) := IntWalk.i64_in _ (by omega);have hwp : IntKind.i64.wrap (((p : Nat) : Int) + 1) = ((p : Nat) : Int) + 1 := IntWalk.i64_in _ (by omega);have hin : (0 : Int) ≤ (0 : Int) ∧ (0 : Int) < (1 : Int) := by omega
      have htn : ((0 : Int)).toNat = 0 := by omega
      have hp1 : (0 : Int) ≤ ((p : Nat) : Int) + 1 := by omega
      have hp2 : ((p : Nat) : Int) ≤ ((p : Nat) : Int) + 1 := by omega
      have hc1 : (w2).drew.cell? ⟨g, 0, none⟩ = some (.string E0) := hc2;have hsz : ¬ 9223372036854775807 < (E0).size + (min (p + 1) s.size - p) := by have := hEs; omega
      refine wp_region_still_tail 13 (by kernel_rfl) (by kernel_rfl) ?_;simp only [List.take_succ_cons, List.take_zero, List.drop_succ_cons, List.drop_zero];repeat (refine wpStill_step (fun K hK => ?_); go_simp; (try simp only [hwn, hwp, if_pos hin, if_pos hp1, if_pos hp2, if_neg hsz, htn, Int.toNat_natCast, hc1]); (try go_simp); refine hK _ ?_; clear hK K)
      refine wpStill_nil ?_;change wpList _ _ _ _ _ (w2).drew;go_wp2;go_roundw
      case rel =>
       have hst := hTh.out.stored (0 * 3) (.string (E0 ++ s.extract p (p + 1)));have hset := zqz (([] : List Tok)) 0 rfl E0 (E0 ++ s.extract p (p + 1)) 0 0;refine ⟨k + 1, ⟨p + 1, o, ([] : List Tok)⟩, ?_, ?_⟩
       ·rw [hnext.out, ← hX.out, hS.out]
       ·refine ⟨by simp; omega, by simp; omega, h3, by go_num, ?_, ?_⟩
        ·rw [zqj s p o _ h1, ← zrl s o p h1 hlt, hE'.out, ← hset, show (([] : List Tok) ++ [(E0 ++ s.extract p (p + 1), (0 : Int), (0 : Int))]).length = 0 + 1 from by (rw [List.length_append, show (([] : List Tok)).length = 0 from rfl]; rfl)];exact hst.1
        ·exact Below.setCell (below_drewN hb2 1) hg0 _
      case measure => simp [intOf]; omega
     ·have hdl : 0 < done.length := by rw [hd]; simp
      obtain ⟨m, hm⟩ : ∃ m, done.length = m + 1 := ⟨done.length - 1, by omega⟩;have hmd : m = d.length := by rw [hd] at hm; simp at hm; omega
      rw [hm] at hTq hfl2;obtain ⟨gq, c, rfl, hg0q, hg1q⟩ := zqu hTq (by omega);have hc0 : wq.cell? ⟨gq, m * 3, none⟩ = some (.string ⟨#[]⟩) := by
       rw [hTq.cellAt (m * 3) (by omega), hd, hmd];exact ybz d _ _ _
      have hf0 : wq.frozen? ⟨gq, m * 3, none⟩ = false := hTq.frozenAt _;clear hd hmd;have hzm : ((((m + 1 : Nat) : Int)) == 0) = false := beq_eq_false_iff_ne.2 (by omega);have hzm' : (((m : Nat) : Int) + 1 == 0) = false := beq_eq_false_iff_ne.2 (by omega);go_wp2_with (first
       | (at_builtin; go_loud (refine wpList_append_own _ rfl (.tmp 41) (.tmp 43) 130 rfl w.heap.size 174 i0 (.agg #[.string ⟨#[]⟩, .int .i64 0, .int .i64 0]) 3 32 Tryz.underlying130 hi hz0 hz1 hz2 rfl (by decide) _ (m + 1) (tokV (done)) rfl (hTq.alloc _) ⟨wq.heap.size, 0, none⟩ 1 1 [.string ⟨#[]⟩, .int .i64 0, .int .i64 0] rfl rfl (zdl _ #[.string ⟨#[]⟩, .int .i64 0, .int .i64 0] _) (by intro u hu; simp at hu; rcases hu with rfl | rfl | rfl <;> rfl) (by unfold maxLen; omega) (by omega) (by simp; omega) ?_; intro v2 w2 hT2 hg2 _; have hb2 := zaj (hbq.alloc hbq.size _) hg2 (by simp; omega) (hTq.alloc _); obtain ⟨g, c', rfl, hg0, hTn, hc2, hf2⟩ := ycz hT2 hm hE1.out; have hTh := Lib.hid hTn; clear hTn hT2)))
      have hwn : IntKind.i64.wrap (((m : Nat) : Int) + 1) = ((m : Nat) : Int) + 1 := IntWalk.i64_in _ (by omega);have hwp : IntKind.i64.wrap (((p : Nat) : Int) + 1) = ((p : Nat) : Int) + 1 := IntWalk.i64_in _ (by omega);have hin : (0 : Int) ≤ ((m : Nat) : Int) + 1 ∧ ((m : Nat) : Int) + 1 < ((m : Nat) : Int) + 1 + 1 := by omega
      have htn : (((m : Nat) : Int) + 1).toNat = (m + 1) := by omega
      have hp1 : (0 : Int) ≤ ((p : Nat) : Int) + 1 := by omega
      have hp2 : ((p : Nat) : Int) ≤ ((p : Nat) : Int) + 1 := by omega
      have hc1 : (w2).drew.cell? ⟨g, (m + 1) * 3, none⟩ = some (.string E0) := hc2;have hsz : ¬ 9223372036854775807 < (E0).size + (min (p + 1) s.size - p) := by have := hEs; omega
      refine wp_region_still_tail 13 (by kernel_rfl) (by kernel_rfl) ?_;simp only [List.take_succ_cons, List.take_zero, List.drop_succ_cons, List.drop_zero];repeat (refine wpStill_step (fun K hK => ?_); go_simp; (try simp only [hwn, hwp, if_pos hin, if_pos hp1, if_pos hp2, if_neg hsz, htn, Int.toNat_natCast, hc1]); (try go_simp); refine hK _ ?_; clear hK K)
      refine wpStill_nil ?_;change wpList _ _ _ _ _ (w2).drew;go_wp2;go_roundw
      case rel =>
       have hst := hTh.out.stored ((m + 1) * 3) (.string (E0 ++ s.extract p (p + 1)));have hset := zqz (done) (m + 1) hm E0 (E0 ++ s.extract p (p + 1)) 0 0;refine ⟨k + 1, ⟨p + 1, o, done⟩, ?_, ?_⟩
       ·rw [hnext.out, ← hX.out, hS.out]
       ·refine ⟨by simp; omega, by simp; omega, h3, by go_num, ?_, ?_⟩
        ·rw [zqj s p o _ h1, ← zrl s o p h1 hlt, hE'.out, ← hset, show (done ++ [(E0 ++ s.extract p (p + 1), (0 : Int), (0 : Int))]).length = (m + 1) + 1 from by (rw [List.length_append, show (done).length = (m + 1) from hm]; rfl)];exact hst.1
        ·exact Below.setCell (below_drewN hb2 1) hg0 _
      case measure => simp [intOf]; omega
   ·have hnb : (0 : Int) < (n : Int) := by omega
    have hS := Lib.hid (hstep2 hn0);clear hstep hstep2;generalize hF : flush s ⟨p, o, done⟩ = F at *;go_wp2_with (first
      | (at_builtin; refine wpList_append_own _ rfl (.tmp 19) (.tmp 23) 130 rfl w.heap.size 174 i0 (.agg #[.string ⟨#[]⟩, .int .i64 0, .int .i64 0]) 3 32 Tryz.underlying130 hi hz0 hz1 hz2 rfl (by decide) u3 F.length (tokV F) rfl (hTq.alloc _) ⟨wq.heap.size, 0, none⟩ 1 1 [.string ⟨#[]⟩, .int .i64 (b : Int), .int .i64 (n : Int)] rfl rfl (zdl _ #[.string ⟨#[]⟩, .int .i64 (b : Int), .int .i64 (n : Int)] _) (by intro u hu; simp at hu; rcases hu with rfl | rfl | rfl <;> rfl) (by unfold maxLen; omega) (by omega) (by simp; omega) ?_; intro v2 w2 hT2 hg2 _; have hb2 := zaj (hbq.alloc hbq.size _) hg2 (by simp; omega) (hTq.alloc _)))
    go_roundw
    case rel =>
     rw [zii p n];refine ⟨k + 1, ⟨p + n, p + n, _⟩, zql hX.out hS.out, Nat.le_refl _, hfe.out, by simp; omega, rfl, ?_, hb2⟩;rw [zlo s ⟨p + n, p + n, _⟩ (by simp)];simpa [tokV, zeq, List.flatMap_append, yaz] using hT2
    case measure =>
     rw [zii p n];simp [intOf]; omega
  ·have hpe : p = s.size := by omega
   have hend := Lib.hid (yjc s k (by rw [← hX.out]; simp only; omega));subst hpe;have hlt' : ¬ ((s.size : Nat) : Int) < ((s.size : Nat) : Int) := by omega
   go_wp2_with fail;go_ret;refine ⟨_, rfl, ?_, hbel⟩;rw [← hend.out, ← hX.out];exact hT
end Go.Proofs.YtkejlnjnoiidnaaGreatDoor.Tokens
end

section
namespace Go.Proofs.YtkejlnjnoiidnaaGreatDoor
open Go.RowKit As Tokens
theorem zpp {s : ByteArray} (hs : s.size ≤ 140737488351232) {x : St} (h : ∀ t ∈ x.done, zji t) : ∀ t ∈ flush s x, zji t := by
 intro t ht;unfold flush at ht;split at ht
 ·rcases List.mem_append.1 ht with ht | ht
  ·exact h t ht
  ·simp only [List.mem_singleton] at ht;subst ht;refine ⟨?_, by simp, by simp⟩;simp only [ByteArray.size_extract]; omega
 ·exact h t ht
theorem ykg {s : ByteArray} (hs : s.size ≤ 140737488351232) (k : Nat) : ∀ t ∈ (st s k).done, zji t := by
 induction k with
 | zero => intro t ht; simp [st] at ht
 | succ k ih =>
  intro t ht;have e : st s (k + 1) = Tokens.step s (st s k) := rfl;rw [e] at ht;unfold Tokens.step at ht;split at ht
  ·split at ht
   ·exact ih t ht
   ·simp only at ht;rcases List.mem_append.1 ht with ht | ht
    ·exact zpp hs ih t ht
    ·simp only [List.mem_singleton] at ht;subst ht;have hf := zqq s.data.toList (st s k).at_;refine ⟨by show (ByteArray.empty).size ≤ _; simp, ?_, ?_⟩ <;> simp only <;> omega
  ·exact ih t ht
theorem zvy {s : ByteArray} (hs : s.size ≤ 140737488351232) : ∀ t ∈ tokens s, zji t := zpp hs (ykg hs _)
theorem znc {w : World} {base : Nat} {E : TypeId} {A : Option Addr} {n c : Nat} {s : ByteArray} (hs : s.size ≤ 140737488351232) (h : w.ownsRow base E 3 (.slice A n c) n (tokV (tokens s))) : Toks w w.heap.size A n (tokens s) := ⟨Sl.zbf h, zvy hs⟩
def zca (s : ByteArray) : ByteArray × Int × Int := if 20000 < s.size then (⟨#[]⟩, 4, -1) else zgx (tokens s)
theorem znk {s : ByteArray} (h : 20000 < s.size) : zca s = (⟨#[]⟩, 4, -1) := by unfold zca; rw [if_pos h]
theorem zkr {s : ByteArray} (h : ¬ 20000 < s.size) : zca s = zgx (tokens s) := by unfold zca; rw [if_neg h]
set_option maxRecDepth 100000 in
theorem zuo (s : ByteArray) (w : World) (hs : s.size ≤ 100000) :
  Calls Tryz.prog 46 #[.string s] w fun e w' => ∃ v, e = .returned (.tuple #[.string (zca s).1, v]) ∧ zck w' v (zca s).2 ∧ Below w.heap.size w w' := by
 by_cases h : 20000 < s.size
 ·have hd : decide (20000 < s.size) = true := by simpa using h
  have hr := Lib.hid (znk h);go_enter Tryz.func46, Tryz.ntmps46;go_wp2;go_ret2;rw [hr.out];exact ⟨_, rfl, .bare 4 (by omega), Below.refl _ _⟩
 ·have hd : decide (20000 < s.size) = false := by simpa using h
  have hr := Lib.hid (zkr h);have hlen := zok s;go_enter Tryz.func46, Tryz.ntmps46;go_wp2_with fail;refine (yak s w hs).mono ?_;rintro e w1 ⟨v1, rfl, hT, hb1⟩;obtain ⟨A, c, rfl⟩ := zah hT;go_wp2_with fail;refine (zze w1 _ c A (tokens s) (znc (by omega) hT) (by omega)).mono ?_;rintro e w2 ⟨v2, rfl, hv, hb2⟩;have hb12 := hb1.trans (hb2.mono hb1.size);go_wp2;go_ret2;rw [hr.out];exact ⟨_, rfl, hv, hb12⟩
set_option maxRecDepth 100000 in
theorem zse (s : ByteArray) (w : World) (hs : s.size ≤ 100000) :
  Calls Tryz.prog 45 #[.string s] w fun e w' => e = .returned (.tuple #[.string (zca s).1, zba (zca s).2]) ∧ Below w.heap.size w w' := by
 by_cases h : 20000 < s.size
 ·have hd : decide (20000 < s.size) = true := by simpa using h
  have hr := Lib.hid (znk h);go_enter Tryz.func45, Tryz.ntmps45;go_wp2_with fail;refine (zbi _ _).mono ?_;rintro e w' ⟨rfl, hb⟩;obtain ⟨c0, c1, f0, f1⟩ := (Two.new w 0 0 29).below hb;have S := set2 (.int .i64 4) (.int .i64 (-1)) c0 c1;go_wp2;exact bodyPost_ret (v := .tuple #[.string ⟨#[]⟩, .agg #[.int .i64 4, .int .i64 (-1)]]) (by simp [results, Tryz.results45, go_sem, S.1, S.2]) rfl ⟨by rw [hr.out]; rfl, zai _ _ ((zaa _ _).trans (hb.mono (by simp))) (Nat.le_refl _)⟩
 ·have hd : decide (20000 < s.size) = false := by simpa using h
  have hr := Lib.hid (zkr h);have hlen := zok s;go_enter Tryz.func45, Tryz.ntmps45;go_wp2_with fail;refine (zvc s _ hs).mono ?_;rintro e w1 ⟨v1, rfl, hT, hb1⟩;obtain ⟨A, c, rfl⟩ := zah hT;go_wp2_with fail;refine (zvd w1 _ c A (tokens s) (znc (by omega) hT) (by omega)).mono ?_;rintro e w2 ⟨rfl, hb2⟩;have hb12 := hb1.trans (hb2.mono hb1.size);obtain ⟨c0, c1, f0, f1⟩ := (Two.new w 0 0 29).below hb12;unfold zba;generalize hX : zgx (tokens s) = X at *;obtain ⟨t, e1, p1⟩ := X;clear hX;have S := set2 (.int .i64 e1) (.int .i64 p1) c0 c1;go_wp2;exact bodyPost_ret (v := .tuple #[.string t, .agg #[.int .i64 e1, .int .i64 p1]]) (by simp [results, Tryz.results45, go_sem, S.1, S.2]) rfl ⟨by rw [hr.out]; rfl, zai _ _ ((zaa _ _).trans (hb12.mono (by simp))) (Nat.le_refl _)⟩
end Go.Proofs.YtkejlnjnoiidnaaGreatDoor
end

section
namespace Go.Proofs.YtkejlnjnoiidnaaGreatDoor
open Tokens Match
def tsz (t : Tok) : Nat := if t.1.size ≠ 0 then t.1.size else t.2.2.toNat
def tot (l : List Tok) : Nat := (l.map tsz).sum
theorem zyc (l : List Tok) (t : Tok) : tot (l ++ [t]) = tot l + tsz t := by simp [tot]
theorem ztr (t : Tok) (l : List Tok) : ∀ (n i : Nat), (trgo l n i).1 = 0 → trgo (l ++ [t]) n i = trgo [t] (n + tot l) (i + l.length) := by
 induction l with
 | nil => intro n i _; rfl
 | cons x l ih =>
  intro n i h;have ha : n + tot (x :: l) = n + tsz x + tot l := by simp [tot]; omega
  have hb : i + (x :: l).length = i + 1 + l.length := by simp; omega
  rw [ha, hb, List.cons_append];unfold trgo at h;rw [trgo];split at h
  ·simp at h
  ·rename_i h1;rw [if_neg h1];split at h
   ·rename_i h2;rw [if_pos h2];have ht : tsz x = x.1.size := by unfold tsz; rw [if_pos h2]
    split at h
    ·simp at h
    ·rename_i h3;rw [if_neg h3, ih _ _ h, ht]
   ·rename_i h2;rw [if_neg h2];have ht : tsz x = x.2.2.toNat := by unfold tsz; rw [if_neg h2]
    split at h
    ·simp at h
    ·rename_i h3;rw [if_neg h3];split at h
     ·simp at h
     ·rename_i h4;rw [if_neg h4];split at h
      ·simp at h
      ·rename_i h5;rw [if_neg h5, ih _ _ h, ht]
theorem zur (l : List UInt8) (i k : Nat) (h : (zcv l i k).2 ≠ 0) : 4 ≤ (zcv l i k).2 ∧ 1 ≤ (zcv l i k).1 := by
 induction k with
 | zero => exact absurd rfl h
 | succ k ih =>
  simp only [zcv] at h ⊢;split
  ·rename_i h1;exact ⟨h1.1, by simp⟩
  ·rename_i h1;rw [if_neg h1] at h;exact ih h
theorem yct (l : List UInt8) (i : Nat) (h : (find l i).2 ≠ 0) : 4 ≤ (find l i).2 ∧ 1 ≤ (find l i).1 ∧ (find l i).1 ≤ i := by
 unfold find at h ⊢;split
 ·rename_i h1;rw [if_pos h1] at h;have h2 := zur l i (min i 1024) h;have h3 := (zmv l i (min i 1024)).1;exact ⟨h2.1, h2.2, by omega⟩
 ·rename_i h1;rw [if_neg h1] at h;exact absurd rfl h
def Told (x : St) : Prop := (trgo x.done 0 0).1 = 0 ∧ tot x.done = x.own
theorem zmi {s : ByteArray} {x : St} (h : Told x) (h1 : x.own ≤ x.at_) (h2 : x.at_ ≤ s.size) (h3 : s.size ≤ 20000) : (trgo (flush s x) 0 0).1 = 0 ∧ tot (flush s x) = x.at_ := by
 unfold flush;split
 ·rename_i hlt;have hz : (s.extract x.own x.at_).size = x.at_ - x.own := by rw [ByteArray.size_extract]; omega
  have hn : (s.extract x.own x.at_).size ≠ 0 := by omega
  have ht : tsz (s.extract x.own x.at_, 0, 0) = x.at_ - x.own := by unfold tsz; rw [if_pos hn]; exact hz
  refine ⟨?_, by rw [zyc, h.2, ht]; omega⟩;rw [ztr _ _ 0 0 h.1, h.2];unfold trgo;rw [if_neg (by unfold zdq; simp only; omega), if_pos hn];rw [if_neg (by simp only [hz]; omega)];rfl
 ·exact ⟨h.1, by rw [h.2]; omega⟩
theorem ykn {s : ByteArray} (h3 : s.size ≤ 20000) (k : Nat) : Told (st s k) := by
 induction k with
 | zero => exact ⟨rfl, rfl⟩
 | succ k ih =>
  obtain ⟨h1, h2, _, _⟩ := ztc s k;have e : st s (k + 1) = Tokens.step s (st s k) := rfl;rw [e];clear e;generalize st s k = x at *;unfold Tokens.step;by_cases hlt : x.at_ < s.size
  ·rw [if_pos hlt];by_cases hz : (find s.data.toList x.at_).2 = 0
   ·rw [if_pos hz];exact ih
   ·rw [if_neg hz];obtain ⟨g1, g2⟩ := zmi ih h1 h2 h3;have he := zlu s.data.toList x.at_ (by simpa using h2);have hg := yct s.data.toList x.at_ hz;have hl := zqq s.data.toList x.at_;have hs : s.data.toList.length = s.size := by simp
    have hn : ¬ ((ByteArray.empty).size ≠ 0) := by simp
    have ht : tsz (ByteArray.empty, ((find s.data.toList x.at_).1 : Int), ((find s.data.toList x.at_).2 : Int)) = (find s.data.toList x.at_).2 := by unfold tsz; rw [if_neg hn]; simp
    refine ⟨?_, by show tot _ = x.at_ + _; rw [zyc, g2, ht]⟩;show (trgo (flush s x ++ [_]) 0 0).1 = 0;rw [ztr _ _ 0 0 g1, g2];unfold trgo;rw [if_neg (by unfold zdq; simp only [ByteArray.size_empty]; omega), if_neg hn, if_neg (by unfold zcs; simp only; omega), if_neg (by simp only; omega), if_neg (by simp only; omega)];rfl
  ·rw [if_neg hlt];exact ih
theorem zuj {s : ByteArray} (h : s.size ≤ 20000) : (zaz (tokens s)).1 = 0 := by
 obtain ⟨h1, h2, _, _⟩ := ztc s s.size;exact (zmi (ykn h s.size) h1 h2 h).1
end Go.Proofs.YtkejlnjnoiidnaaGreatDoor
end

section
namespace Go.Proofs.YtkejlnjnoiidnaaGreatDoor
open Go.RowKit
theorem zkv (w : World) (n c : Nat) (A : Option Addr) (l : List Ent) (x : Int) (hl : Ents w w.heap.size A n l) (hn : n ≤ maxLen) :
  Calls Tryz.prog 117 #[.slice A n c, .int .i64 x] w fun e w' => e = .returned (.int .i64 (vof l x)) ∧ w = w' := by
 unfold maxLen at hn;have hlen := Lib.hid hl.len;go_enter Tryz.func117, Tryz.ntmps117;go_wp2;go_loop [5, 8] (fun _ i => ∃ k : Nat, k ≤ n ∧ i = .int .i64 k ∧ ∀ (j : Nat) (y : Ent), j < k → l[j]? = some y → y.1 ≠ x) (fun _ i => n - (intOf i).toNat)
 case atStart => exact ⟨0, by omega, rfl, fun j y hj => by omega⟩
 case round =>
  obtain ⟨k, hk, rfl, hall⟩ := hrel;have Hall := Lib.hid hall;clear hall;by_cases hlt : k < n
  ·obtain ⟨b, o, r, t, rfl, hb, hx, hf, c0, c1⟩ := hl.at_ hlt;by_cases hr : r = x
   ·subst hr;have hv := Lib.hid (yeu l r k t Hall.out hx);go_wp2_with fail;go_ret;exact ⟨retI hv.out.symm, rfl⟩
   ·have hr' : (r == x) = false := by simp [hr]
    have hx' := Lib.hid hx;clear hx;go_wp2_with fail;go_round
    case rel => exact ⟨k + 1, by omega, by go_num, fun j y hj hy => zqy Hall.out hx'.out hr j y hj hy⟩
    case measure => simp [intOf]; omega
  ·obtain rfl : k = n := by omega
   go_wp2_with fail;go_ret;exact ⟨retI (zyh l x fun j y hy => Hall.out j y (yax hlen.out hy) hy).symm, rfl⟩
end Go.Proofs.YtkejlnjnoiidnaaGreatDoor
end

section
namespace Go.Proofs.YtkejlnjnoiidnaaGreatDoor
open Go.RowKit
abbrev Id := Int × Int
def zdd (x : Id) : Bool := decide (1 ≤ x.1 ∧ x.1 ≤ 1099511627776 ∧ 0 ≤ x.2 ∧ x.2 ≤ 200)
def zdr (a b : Id) : Int := if a.1 < b.1 ∨ (a.1 = b.1 ∧ a.2 < b.2) then -1 else if a = b then 0 else 1
theorem zaa (w : World) (o : Obj) : Below w.heap.size w (w.alloc o) := (Below.refl _ _).alloc (Nat.le_refl _) o
theorem below2 (w : World) (o o' : Obj) : Below w.heap.size w ((w.alloc o).alloc o') := (zaa w o).alloc (by simp) o'
theorem zat (t r : Int) (w : World) :
  Calls Tryz.prog 123 #[.agg #[.int .i64 t, .int .i64 r]] w fun e w' => e = .returned (.bool (zdd (t, r))) ∧ Below w.heap.size w w' := by
 go_enter Tryz.func123, Tryz.ntmps123;go_wp2;all_goals
  go_ret;refine ⟨retB ?_, zaa _ _⟩;unfold zdd;first | (rw [decide_eq_decide]; omega) | (symm; rw [decide_eq_false_iff_not]; omega)
theorem zal (t r : Int) (w : World) :
  Calls Tryz.prog 118 #[.agg #[.int .i64 t, .int .i64 r]] w fun e w' => e = .returned (.bool (zdd (t, r))) ∧ Below w.heap.size w w' := by
 go_enter Tryz.func118, Tryz.ntmps118;go_wp2;all_goals
  go_ret;refine ⟨retB ?_, zaa _ _⟩;unfold zdd;first | (rw [decide_eq_decide]; omega) | (symm; rw [decide_eq_false_iff_not]; omega)
def cmpI (a b : Int) : Int := if a < b then -1 else if b < a then 1 else 0
theorem ybl (a b : Int) (w : World) :
  Calls Tryz.prog 125 #[.int .i64 a, .int .i64 b] w fun e w' => e = .returned (.int .i64 (cmpI a b)) ∧ w' = w := by
 rcases Int.lt_trichotomy a b with h | h | h
 ·go_enter Tryz.func125, Tryz.ntmps125;go_wp2;go_ret;exact ⟨retI (by unfold cmpI; rw [if_pos h]), rfl⟩
 ·subst h;go_enter Tryz.func125, Tryz.ntmps125;go_wp2;go_ret;exact ⟨retI (by unfold cmpI; rw [if_neg (by omega), if_neg (by omega)]), rfl⟩
 ·go_enter Tryz.func125, Tryz.ntmps125;go_wp2;go_ret;exact ⟨retI (by unfold cmpI; rw [if_neg (by omega), if_pos h]), rfl⟩
def orI (a b : Int) : Int := if a = 0 then b else a
theorem yol (a b : Int) (h : ¬ a = 0) : orI a b = a := by unfold orI; rw [if_neg h]
def yot (a b : Int) (i : Value) : Prop := i = .int .i64 0 ∨ (i = .int .i64 1 ∧ a = 0) ∨ (i = .int .i64 2 ∧ a = 0 ∧ b = 0)
theorem ymn (a b : Int) (g : Nat) (w : World) (h0 : w.cell? ⟨g, 0, none⟩ = some (.int .i64 a)) (h1 : w.cell? ⟨g, 1, none⟩ = some (.int .i64 b)) :
  Calls Tryz.prog 124 #[.slice (some ⟨g, 0, none⟩) 2 2] w fun e w' => e = .returned (.int .i64 (orI a b)) ∧ w' = w := by
 go_enter Tryz.func124, Tryz.ntmps124;go_wp2;go_loop [5, 8] (fun _ i => yot a b i) (fun _ i => 2 - (intOf i).toNat)
 case atStart => exact .inl rfl
 case round =>
  rcases hrel with rfl | ⟨rfl, rfl⟩ | ⟨rfl, rfl, rfl⟩
  ·by_cases ha : a = 0
   ·subst ha;go_wp2;go_round
    case rel => exact .inr (.inl ⟨rfl, rfl⟩)
    case measure => simp [intOf]
   ·have hb : (a != 0) = true := by rw [bne_iff_ne]; exact ha
    have hr := Lib.hid (yol a b ha);go_wp2;go_ret;exact ⟨retI hr.out.symm, rfl⟩
  ·by_cases hb : b = 0
   ·subst hb;go_wp2;go_round
    case rel => exact .inr (.inr ⟨rfl, rfl, rfl⟩)
    case measure => simp [intOf]
   ·have hb' : (b != 0) = true := by rw [bne_iff_ne]; exact hb
    go_wp2;go_ret;exact ⟨rfl, rfl⟩
  ·go_wp2;go_ret;exact ⟨rfl, rfl⟩
theorem zyt (w : World) (c : Array Value) (t : TypeId) (n i : Nat) (v : Value) (hn : n = w.heap.size) (hv : c[i]? = some v) : (w.alloc (.cells c t)).drew.cell? ⟨n, i, none⟩ = some v := by
 show (w.alloc (.cells c t)).cell? ⟨n, i, none⟩ = some v;rw [World.cell?_alloc_at c t n i hn, hv]
theorem yfv (t r t' r' : Int) : orI (cmpI t t') (cmpI r r') = zdr (t, r) (t', r') := by
 have he : ((t, r) = (t', r')) ↔ (t = t' ∧ r = r') := by simp
 unfold orI cmpI zdr;simp only [he];by_cases a : t < t' <;> by_cases b : t' < t <;> by_cases c : r < r' <;> by_cases d : r' < r <;> by_cases e : t = t' <;> by_cases f : r = r' <;> simp [a, b, c, d, e, f] <;> omega
theorem below3 (w : World) (o o' o'' : Obj) : Below w.heap.size w (((w.alloc o).alloc o').alloc o'').drew := by
 have h : w.heap.size ≤ ((w.alloc o).alloc o').heap.size := by simp; omega
 exact ((below2 w o o').alloc h o'').drew
theorem zwb (t r t' r' : Int) (w : World) :
  Calls Tryz.prog 82 #[.agg #[.int .i64 t, .int .i64 r], .agg #[.int .i64 t', .int .i64 r']] w fun e w' => e = .returned (.int .i64 (zdr (t, r) (t', r'))) ∧ Below w.heap.size w w' := by
 go_enter Tryz.func82, Tryz.ntmps82;go_wp2_with fail;go_region_held3 (fun wx => wx.cell? ⟨w.heap.size, 0, none⟩ = some (.int .i64 t) ∧ wx.cell? ⟨w.heap.size, 1, none⟩ = some (.int .i64 r) ∧ wx.cell? ⟨w.heap.size + 1, 0, none⟩ = some (.int .i64 t') ∧ wx.cell? ⟨w.heap.size + 1, 1, none⟩ = some (.int .i64 r')) (go_keep)
  (first
   | (go_at_call_of 125 (Value.int .i64 t); refine (ybl t t' _).mono ?_; rintro e w' ⟨rfl, rfl⟩)
   | (go_at_call_of 125 (Value.int .i64 r); refine (ybl r r' _).mono ?_; rintro e w' ⟨rfl, rfl⟩)
   | (go_at_call 124; refine (ymn (cmpI t t') (cmpI r r') _ _ (zyt _ _ _ _ 0 _ (by simp) rfl) (zyt _ _ _ _ 1 _ (by simp) rfl)).mono ?_; rintro e w' ⟨rfl, rfl⟩))
 go_wp2;go_ret;exact ⟨retI (yfv t r t' r'), below3 _ _ _ _⟩
theorem zwh (t r t' r' : Int) (h : t < t' ∨ (t = t' ∧ r < r')) : zdr (t, r) (t', r') = -1 := by unfold zdr; rw [if_pos h]
theorem zzp (t r : Int) : zdr (t, r) (t, r) = 0 := by unfold zdr; rw [if_neg (by simp), if_pos rfl]
theorem zxq (t r t' r' : Int) (h : ¬ (t < t' ∨ (t = t' ∧ r < r'))) (hn : ¬ (t = t' ∧ r = r')) : zdr (t, r) (t', r') = 1 := by
 unfold zdr; rw [if_neg h, if_neg (by simpa using hn)]
theorem zrv (t r t' r' : Int) (w : World) :
  Calls Tryz.prog 73 #[.agg #[.int .i64 t, .int .i64 r], .agg #[.int .i64 t', .int .i64 r']] w fun e w' => e = .returned (.int .i64 (zdr (t, r) (t', r'))) ∧ Below w.heap.size w w' := by
 rcases Int.lt_trichotomy t t' with h | h | h
 ·have hr := Lib.hid (zwh t r t' r' (.inl h));go_enter Tryz.func73, Tryz.ntmps73;go_wp2;go_ret;exact ⟨retI hr.out.symm, below2 _ _ _⟩
 ·subst h;rcases Int.lt_trichotomy r r' with h | h | h
  ·have hr := Lib.hid (zwh t r t r' (.inr ⟨rfl, h⟩));go_enter Tryz.func73, Tryz.ntmps73;go_wp2;go_ret;exact ⟨retI hr.out.symm, below2 _ _ _⟩
  ·subst h;have hr := Lib.hid (zzp t r);go_enter Tryz.func73, Tryz.ntmps73;go_wp2;go_ret;exact ⟨retI hr.out.symm, below2 _ _ _⟩
  ·have hr := Lib.hid (zxq t r t r' (by omega) (by omega));have hne : (r == r') = false := beq_eq_false_iff_ne.2 (by omega);have hlt : decide (r < r') = false := decide_eq_false (by omega);go_enter Tryz.func73, Tryz.ntmps73;go_wp2;go_ret;exact ⟨retI hr.out.symm, below2 _ _ _⟩
 ·have hr := Lib.hid (zxq t r t' r' (by omega) (by omega));have hne : (t == t') = false := beq_eq_false_iff_ne.2 (by omega);have hlt : decide (t < t') = false := decide_eq_false (by omega);go_enter Tryz.func73, Tryz.ntmps73;go_wp2;go_ret;exact ⟨retI hr.out.symm, below2 _ _ _⟩
def zco (x : Id) (f h : List Ent) : Bool := decide (vof f x.2 < x.1) && decide (x.1 ≤ vof h x.2)
theorem yel {x : Id} {f h : List Ent} (a : vof f x.2 < x.1) : zco x f h = decide (x.1 ≤ vof h x.2) := by unfold zco; rw [decide_eq_true a, Bool.true_and]
theorem ybm {x : Id} {f h : List Ent} (a : ¬ vof f x.2 < x.1) : zco x f h = false := by unfold zco; rw [decide_eq_false a, Bool.false_and]
theorem zgp (t r : Int) (n n' c c' : Nat) (A A' : Option Addr) (l l' : List Ent) (w : World) (h : Ents w w.heap.size A n l) (h' : Ents w w.heap.size A' n' l') (hn : n ≤ maxLen) (hn' : n' ≤ maxLen) :
  Calls Tryz.prog 83 #[.agg #[.int .i64 t, .int .i64 r], .slice A n c, .slice A' n' c'] w fun e w' => e = .returned (.bool (zco (t, r) l l')) ∧ Below w.heap.size w w' := by
 by_cases g : vof l r < t
 ·have hr := Lib.hid (yel (x := (t, r)) (h := l') g);have b0 : Below w.heap.size w (w.alloc (.cells #[.int .i64 t, .int .i64 r] 51)) := zaa _ _;have c0 := Inv.cell (w := w.alloc (.cells #[.int .i64 t, .int .i64 r] 51)) (a := ⟨w.heap.size, 0, none⟩) (v := .int .i64 t) (by rw [World.cell?_alloc_new]; rfl);have c1 := Inv.cell (w := w.alloc (.cells #[.int .i64 t, .int .i64 r] 51)) (a := ⟨w.heap.size, 1, none⟩) (v := .int .i64 r) (by rw [World.cell?_alloc_new]; rfl);go_enter Tryz.func83, Tryz.ntmps83;go_wp2_with fail;refine zbg (by kernel_rfl) (by kernel_rfl) ?_;repeat (go_big_quiet_step ((first
    | (go_at_call_of 122 (Value.slice A n c); exact Calls.inv_of (zoq _ n c A l r (h.inv b0 _) hn))
    | (go_at_call_of 122 (Value.slice A' n' c'); exact Calls.inv_of (zoq _ n' c' A' l' r (h'.inv b0 _) hn')))))
  refine wpQuiet_nil ?_;intro _ hw';obtain ⟨x, rfl⟩ := hw';go_wp2;go_ret;exact ⟨retB hr.out.symm, b0.trans (x.below.mono b0.size)⟩
 ·have hr := Lib.hid (ybm (x := (t, r)) (h := l') g);have g' : decide (vof l r < t) = false := decide_eq_false g;have b0 : Below w.heap.size w (w.alloc (.cells #[.int .i64 t, .int .i64 r] 51)) := zaa _ _;have c0 := Inv.cell (w := w.alloc (.cells #[.int .i64 t, .int .i64 r] 51)) (a := ⟨w.heap.size, 0, none⟩) (v := .int .i64 t) (by rw [World.cell?_alloc_new]; rfl);have c1 := Inv.cell (w := w.alloc (.cells #[.int .i64 t, .int .i64 r] 51)) (a := ⟨w.heap.size, 1, none⟩) (v := .int .i64 r) (by rw [World.cell?_alloc_new]; rfl);go_enter Tryz.func83, Tryz.ntmps83;go_wp2_with fail;refine zbg (by kernel_rfl) (by kernel_rfl) ?_;repeat (go_big_quiet_step ((first
    | (go_at_call_of 122 (Value.slice A n c); exact Calls.inv_of (zoq _ n c A l r (h.inv b0 _) hn))
    | (go_at_call_of 122 (Value.slice A' n' c'); exact Calls.inv_of (zoq _ n' c' A' l' r (h'.inv b0 _) hn')))))
  refine wpQuiet_nil ?_;intro _ hw';obtain ⟨x, rfl⟩ := hw';go_wp2;go_ret;exact ⟨retB hr.out.symm, b0.trans (x.below.mono b0.size)⟩
theorem zgk (t r : Int) (n n' c c' : Nat) (A A' : Option Addr) (l l' : List Ent) (w : World) (h : Ents w w.heap.size A n l) (h' : Ents w w.heap.size A' n' l') (hn : n ≤ maxLen) (hn' : n' ≤ maxLen) :
  Calls Tryz.prog 74 #[.agg #[.int .i64 t, .int .i64 r], .slice A n c, .slice A' n' c'] w fun e w' => e = .returned (.bool (zco (t, r) l l')) ∧ Below w.heap.size w w' := by
 by_cases g : vof l r < t
 ·have hr := Lib.hid (yel (x := (t, r)) (h := l') g);have b0 : Below w.heap.size w (w.alloc (.cells #[.int .i64 t, .int .i64 r] 51)) := zaa _ _;have c0 := Inv.cell (w := w.alloc (.cells #[.int .i64 t, .int .i64 r] 51)) (a := ⟨w.heap.size, 0, none⟩) (v := .int .i64 t) (by rw [World.cell?_alloc_new]; rfl);have c1 := Inv.cell (w := w.alloc (.cells #[.int .i64 t, .int .i64 r] 51)) (a := ⟨w.heap.size, 1, none⟩) (v := .int .i64 r) (by rw [World.cell?_alloc_new]; rfl);go_enter Tryz.func74, Tryz.ntmps74;go_wp2_with fail;refine zbg (by kernel_rfl) (by kernel_rfl) ?_;repeat (go_big_quiet_step ((first
    | (go_at_call_of 117 (Value.slice A n c); exact Calls.zic (zkv _ n c A l r (h.inv b0 _) hn))
    | (go_at_call_of 117 (Value.slice A' n' c'); exact Calls.zic (zkv _ n' c' A' l' r (h'.inv b0 _) hn')))))
  refine wpQuiet_nil ?_;intro _ hw';obtain ⟨x, rfl⟩ := hw';go_wp2;go_ret;exact ⟨retB hr.out.symm, b0.trans (x.below.mono b0.size)⟩
 ·have hr := Lib.hid (ybm (x := (t, r)) (h := l') g);have g' : decide (vof l r < t) = false := decide_eq_false g;have b0 : Below w.heap.size w (w.alloc (.cells #[.int .i64 t, .int .i64 r] 51)) := zaa _ _;have c0 := Inv.cell (w := w.alloc (.cells #[.int .i64 t, .int .i64 r] 51)) (a := ⟨w.heap.size, 0, none⟩) (v := .int .i64 t) (by rw [World.cell?_alloc_new]; rfl);have c1 := Inv.cell (w := w.alloc (.cells #[.int .i64 t, .int .i64 r] 51)) (a := ⟨w.heap.size, 1, none⟩) (v := .int .i64 r) (by rw [World.cell?_alloc_new]; rfl);go_enter Tryz.func74, Tryz.ntmps74;go_wp2_with fail;refine zbg (by kernel_rfl) (by kernel_rfl) ?_;repeat (go_big_quiet_step ((first
    | (go_at_call_of 117 (Value.slice A n c); exact Calls.zic (zkv _ n c A l r (h.inv b0 _) hn))
    | (go_at_call_of 117 (Value.slice A' n' c'); exact Calls.zic (zkv _ n' c' A' l' r (h'.inv b0 _) hn')))))
  refine wpQuiet_nil ?_;intro _ hw';obtain ⟨x, rfl⟩ := hw';go_wp2;go_ret;exact ⟨retB hr.out.symm, b0.trans (x.below.mono b0.size)⟩
end Go.Proofs.YtkejlnjnoiidnaaGreatDoor
end

section
namespace Go.Proofs.YtkejlnjnoiidnaaGreatDoor
def zao (w : Wr) : Int :=
 if w.2.2.1 < 1 ∨ 4 < w.2.2.1 then 1
 else if zdd (w.1, w.2.1) = false then 2
 else if 40 < w.2.2.2.1.size ∨ 300 < w.2.2.2.2.1.size then 4
 else if (w.2.2.1 ≠ 1 ∧ w.2.2.1 ≠ 4 ∧ w.2.2.2.2.1.size ≠ 0) ∨ (w.2.2.1 ≠ 3 ∧ w.2.2.1 ≠ 4 ∧ w.2.2.2.2.2 ≠ 0) then 3
 else if w.2.2.1 = 3 ∧ (w.2.2.2.2.2 < -1125899906842624 ∨ 1125899906842624 < w.2.2.2.2.2) ∨ w.2.2.1 = 4 ∧ (w.2.2.2.2.2 < 0 ∨ 1000 < w.2.2.2.2.2) then 2 else 0
def zigN (n : Int) : Nat := (if n < 0 then 2 * -(n + 1) + 1 else 2 * n).toNat
def zagN (n : Nat) : Int := if n % 2 = 1 then -((n / 2 : Nat) : Int) - 1 else ((n / 2 : Nat) : Int)
def zfn (w : Wr) : ByteArray :=
 if w.2.2.1 = 1 then strOf (vput w.2.2.2.2.1.size) ++ w.2.2.2.2.1
 else if w.2.2.1 = 3 then strOf (vput (zigN w.2.2.2.2.2))
 else if w.2.2.1 = 4 then strOf (vput w.2.2.2.2.2.toNat) ++ (strOf (vput w.2.2.2.2.1.size) ++ w.2.2.2.2.1)
 else strOf []
def zlm (w : Wr) : ByteArray × Int := if zao w ≠ 0 then (strOf [], zao w) else (zfn w, 0)
def noWr : Wr := (0, 0, 0, strOf [], strOf [], 0)
def wend (w : Wr) (k : Nat) : Wr × Nat × Int := if zao w ≠ 0 then (noWr, 0, zao w) else (w, k, 0)
def zcy (w : Wr) (s : ByteArray) : Wr × Nat × Int :=
 if w.2.2.1 = 1 then
  if (zaq s).2.2 ≠ 0 then (noWr, 0, (zaq s).2.2) else wend (w.1, w.2.1, w.2.2.1, w.2.2.2.1, (zaq s).1, 0) (zaq s).2.1
 else if w.2.2.1 = 3 then
  if (vget s.data.toList).2.2 ≠ 0 then (noWr, 0, (vget s.data.toList).2.2) else wend (w.1, w.2.1, w.2.2.1, w.2.2.2.1, strOf [], zagN (vget s.data.toList).1) (vget s.data.toList).2.1
 else if w.2.2.1 = 4 then
  if (vint s.data.toList 1000).2.2 ≠ 0 then (noWr, 0, (vint s.data.toList 1000).2.2)
  else if (zaq (s.extract (vint s.data.toList 1000).2.1 s.size)).2.2 ≠ 0 then (noWr, 0, (zaq (s.extract (vint s.data.toList 1000).2.1 s.size)).2.2)
  else wend (w.1, w.2.1, w.2.2.1, w.2.2.2.1, (zaq (s.extract (vint s.data.toList 1000).2.1 s.size)).1, ((vint s.data.toList 1000).1 : Int)) ((vint s.data.toList 1000).2.1 + (zaq (s.extract (vint s.data.toList 1000).2.1 s.size)).2.1)
 else wend (w.1, w.2.1, w.2.2.1, w.2.2.2.1, strOf [], 0) 0
end Go.Proofs.YtkejlnjnoiidnaaGreatDoor
end

section
namespace Go.Proofs.YtkejlnjnoiidnaaGreatDoor
def zgs (k : Int) (l : List Ent) : Prop := (∀ x ∈ l, k ≤ x.1 ∧ x.1 ≤ 200 ∧ 1 ≤ x.2 ∧ x.2 ≤ 1099511627776) ∧ l.Pairwise (fun x y => x.1 < y.1)
theorem zlp {l : List Ent} (h : (zaf l).1 = 0) : zgs 0 l := by
 obtain ⟨h1, h2⟩ := znt h;refine ⟨fun x hx => ?_, h2⟩;have := h1 x hx;unfold zeh at this;omega
theorem zgs.tail {k : Int} {x : Ent} {l : List Ent} (h : zgs k (x :: l)) : zgs (x.1 + 1) l := by
 obtain ⟨h1, h2⟩ := h;rw [List.pairwise_cons] at h2;refine ⟨fun y hy => ?_, h2.2⟩;have := h1 y (List.mem_cons_of_mem _ hy);have := h2.1 y hy;omega
theorem zgs.head {k : Int} {x : Ent} {l : List Ent} (h : zgs k (x :: l)) : k ≤ x.1 ∧ x.1 ≤ 200 ∧ 1 ≤ x.2 ∧ x.2 ≤ 1099511627776 := h.1 x (by simp)
theorem zgs.cons {k : Int} {x : Ent} {l : List Ent} (h : zgs (x.1 + 1) l) (h0 : k ≤ x.1) (h1 : x.1 ≤ 200) (h2 : 1 ≤ x.2) (h3 : x.2 ≤ 1099511627776) : zgs k (x :: l) := by
 obtain ⟨a, b⟩ := h;refine ⟨fun y hy => ?_, List.pairwise_cons.2 ⟨fun y hy => ?_, b⟩⟩
 ·rcases List.mem_cons.1 hy with rfl | hy
  ·exact ⟨h0, h1, h2, h3⟩
  ·have := a y hy; omega
 ·have := a y hy; omega
theorem zgs.less {k k' : Int} {l : List Ent} (h : zgs k l) (hk : k' ≤ k) : zgs k' l := ⟨fun x hx => by have := h.1 x hx; omega, h.2⟩
def vcov (a b : List Ent) : Bool := decide (∀ x ∈ b, x.2 ≤ vof a x.1)
def zcx (a b : List Ent) : Bool := decide ((zaf a).1 = 0) && decide ((zaf b).1 = 0) && vcov a b
end Go.Proofs.YtkejlnjnoiidnaaGreatDoor
end

section
namespace Go.Proofs.YtkejlnjnoiidnaaGreatDoor
abbrev wid (w : Wr) : Id := (w.1, w.2.1)
def bgo (f h : List Ent) : List Wr → Id → Nat → Int × Int
 | [], _, _ => (0, -1)
 | w :: l, last, i => if zao w ≠ 0 then (zao w, i) else if 0 < i ∧ 0 ≤ zdr last (wid w) then (10, i) else if zco (wid w) f h = false then (6, i) else bgo f h l (wid w) (i + 1)
def zbd (f h : List Ent) (l : List Wr) : Int × Int :=
 if (zaf f).1 ≠ 0 then ((zaf f).1, -1) else if (zaf h).1 ≠ 0 then ((zaf h).1, -1) else if zcx h f = false then (13, -1) else if 60 < l.length then (4, -1) else bgo f h l (0, 0) 0
def zda (l : List Wr) (k : Nat) : Id := if k = 0 then (0, 0) else wid (l.getD (k - 1) noWr)
theorem zep {l : List Wr} {k : Nat} {w : Wr} (h : l[k]? = some w) : zda l (k + 1) = wid w := by
 unfold zda; rw [if_neg (by omega)]; simp [List.getD, h]
def BAt (f h : List Ent) (l : List Wr) (k : Nat) : Prop := bgo f h l (0, 0) 0 = bgo f h (l.drop k) (zda l k) k
section
variable {f h : List Ent} {l : List Wr} {k : Nat} {w : Wr}
theorem BAt.zero : BAt f h l 0 := rfl
theorem BAt.bad (b : BAt f h l k) (hx : l[k]? = some w) (h1 : zao w ≠ 0) : bgo f h l (0, 0) 0 = (zao w, (k : Int)) := by
 unfold BAt at b; rw [b, drop_at hx]; simp only [bgo]; rw [if_pos h1]
theorem BAt.order (b : BAt f h l k) (hx : l[k]? = some w) (h1 : zao w = 0) (h2 : 0 < k) (h3 : 0 ≤ zdr (zda l k) (wid w)) : bgo f h l (0, 0) 0 = (10, (k : Int)) := by
 unfold BAt at b; rw [b, drop_at hx]; simp only [bgo]; rw [if_neg (by omega), if_pos ⟨h2, h3⟩]
theorem BAt.state (b : BAt f h l k) (hx : l[k]? = some w) (h1 : zao w = 0) (h2 : ¬ (0 < k ∧ 0 ≤ zdr (zda l k) (wid w))) (h3 : zco (wid w) f h = false) : bgo f h l (0, 0) 0 = (6, (k : Int)) := by
 unfold BAt at b; rw [b, drop_at hx]; simp only [bgo]; rw [if_neg (by omega), if_neg h2, if_pos h3]
theorem BAt.succ (b : BAt f h l k) (hx : l[k]? = some w) (h1 : zao w = 0) (h2 : ¬ (0 < k ∧ 0 ≤ zdr (zda l k) (wid w))) (h3 : zco (wid w) f h = true) : BAt f h l (k + 1) := by
 unfold BAt at *; rw [b, drop_at hx, zep hx]; simp only [bgo]; rw [if_neg (by omega), if_neg h2, if_neg (by simp [h3])]
theorem BAt.all (b : BAt f h l k) (hk : l.length ≤ k) : bgo f h l (0, 0) 0 = (0, -1) := by
 unfold BAt at b; rw [b, List.drop_eq_nil_of_le hk]; rfl
end
theorem ynz (f h : List Ent) (l : List Wr) : ∀ (last : Id) (i : Nat), (bgo f h l last i).1 = 0 → bgo f h l last i = (0, -1) ∧ ∀ w ∈ l, zao w = 0 ∧ zco (wid w) f h = true := by
 induction l with
 | nil => intro _ _ _; simp [bgo]
 | cons w l ih =>
  intro last i;simp only [bgo];split
  ·rename_i h1; intro h2; exact absurd h2 h1
  ·rename_i h1;split
   ·intro h; simp at h
   ·split
    ·intro h; simp at h
    ·rename_i h3;intro h4;obtain ⟨e, a⟩ := ih _ _ h4;refine ⟨e, fun x hx => ?_⟩;rcases List.mem_cons.1 hx with rfl | hx
     ·exact ⟨by omega, by simpa using h3⟩
     ·exact a x hx
theorem zbq {f h : List Ent} {l : List Wr} (e : (zbd f h l).1 = 0) : zbd f h l = (0, -1) ∧ (zaf f).1 = 0 ∧ (zaf h).1 = 0 ∧ l.length ≤ 60 ∧ ∀ w ∈ l, zao w = 0 ∧ zco (wid w) f h = true := by
 unfold zbd at *;split at e
 ·rename_i h1; exact absurd e h1
 ·rename_i h1;split at e
  ·rename_i h2; exact absurd e h2
  ·rename_i h2;split at e
   ·simp at e
   ·split at e
    ·simp at e
    ·rename_i h3 h4;obtain ⟨a, b⟩ := ynz f h l _ _ e;rw [if_neg h1, if_neg h2, if_neg h3, if_neg h4];exact ⟨a, by omega, by omega, by omega, b⟩
end Go.Proofs.YtkejlnjnoiidnaaGreatDoor
end

section
namespace Go.Proofs.YtkejlnjnoiidnaaGreatDoor
open Go.RowKit As
set_option maxHeartbeats 1000000 in
theorem zeo (w : World) (n c : Nat) (A : Option Addr) (l : List Ent) (hl : Ents w w.heap.size A n l) (hn : n ≤ maxLen) :
  Calls Tryz.prog 70 #[.slice A n c] w fun e w' => e = .returned (zba (zaf l)) ∧ Below w.heap.size w w' := by
 unfold maxLen at hn;have hlen := hl.len;by_cases hbig : 16 < n
 ·have hv := Lib.hid (zla (l := l) (by omega));have hd : decide (16 < n) = true := by simpa using hbig
  have hlen := Lib.hid hlen;clear hl;go_enter Tryz.func70, Tryz.ntmps70;go_wp2_with fail;refine (zbi _ _).mono ?_;rintro e w' ⟨rfl, hb⟩;have hz := hb.size;obtain ⟨c0, c1, f0, f1⟩ := (Two.new w 0 0 29).below hb;have S := set2 (.int .i64 4) (.int .i64 (-1)) c0 c1;simp at hz;go_wp2;exact bodyPost_ret (v := .agg #[.int .i64 4, .int .i64 (-1)]) (by simp [results, Tryz.results70, go_sem, S.1, S.2]) rfl ⟨by rw [hv.out]; rfl, zai _ _ ((zaa _ _).trans (hb.mono (by simp))) (Nat.le_refl _)⟩
 ·have hv := Lib.hid (zhs (l := l) (by omega));have hd : decide (16 < n) = false := by simpa using hbig
  have hlen := Lib.hid hlen;go_enter Tryz.func70, Tryz.ntmps70;go_wp2;go_loopw [3, 4, 5, 12] (fun last _ _ i wr => ∃ k : Nat, k ≤ n ∧ i = .int .i64 k ∧ last = .int .i64 (zkk l k) ∧ VAt l k ∧ Two wr w.heap.size 0 0 ∧ Below w.heap.size w wr) (fun _ _ _ i _ => n - (intOf i).toNat)
  case atStart => exact ⟨0, by omega, rfl, rfl, VAt.zero l, Two.new _ _ _ _, zaa _ _⟩
  case round =>
   obtain ⟨k, hk, rfl, rfl, hat, hT, hbel⟩ := hrel;have Hat := Lib.hid hat;clear hat;obtain ⟨c0, c1, f0, f1⟩ := hT;have hs : w.heap.size < wr.heap.size := cell_lt c0;by_cases hlt : k < n
   ·obtain ⟨b, o, r, t, rfl, hb, hx, hf, hc0, hc1⟩ := hl.at_ hlt;have e0 := (hbel.cell (p := ⟨b, o + k * 2, none⟩) (by simp; omega)).trans hc0;have e1 := (hbel.cell (p := ⟨b, o + k * 2 + 1, none⟩) (by simp; omega)).trans hc1;clear hc0 hc1;have hX := Lib.hid hx;clear hx;have hrt := Lib.hid hf;clear hf;obtain ⟨last, hla⟩ : ∃ last, last = zkk l k := ⟨_, rfl⟩;rw [← hla];have hla := Lib.hid hla;by_cases hbad : zeh (r, t)
    ·have hres := Lib.hid (Hat.out.bad hX.out hbad);have hparts := yld hbad;clear hbad;have S := zen (.int .i64 2) (.int .i64 (k : Int)) (.cells #[.int .i64 r, .int .i64 t] 79) hs c0 c1;rcases hparts with B0' | ⟨B0', B1'⟩
     ·have B0 := Lib.hid B0';clear B0';go_wp2_with fail;refine (zad B0 _).mono ?_;rintro e w' ⟨rfl, rfl⟩;go_wp2;exact bodyPost_ret (v := .agg #[.int .i64 2, .int .i64 (k : Int)]) (by simp [results, Tryz.results70, go_sem, S.1, S.2]) rfl ⟨by rw [hv.out, hres.out]; rfl, (zai _ _ hbel (Nat.le_refl _)).alloc (by simp; omega) _⟩
     ·have B0 := Lib.hid B0';have B1 := Lib.hid B1';clear B0' B1';go_wp2_with fail;refine (zad B0 _).mono ?_;rintro e w' ⟨rfl, rfl⟩;go_wp2_with fail;refine (zad B1 _).mono ?_;rintro e w' ⟨rfl, rfl⟩;go_wp2;exact bodyPost_ret (v := .agg #[.int .i64 2, .int .i64 (k : Int)]) (by simp [results, Tryz.results70, go_sem, S.1, S.2]) rfl ⟨by rw [hv.out, hres.out]; rfl, (zai _ _ hbel (Nat.le_refl _)).alloc (by simp; omega) _⟩
    ·have hok : 0 ≤ r ∧ r ≤ 200 ∧ 1 ≤ t ∧ t ≤ 1099511627776 := by unfold zeh at hbad; simp only at hbad; omega
     obtain ⟨g0, g1, g2, g3⟩ := hok;have B0 := Lib.hid (show inB r 0 200 = true by unfold inB; simp [g0, g1]);have B1 := Lib.hid (show inB t 1 1099511627776 = true by unfold inB; simp [g2, g3]);clear g0 g1 g2 g3;have Hbad := Lib.hid hbad;clear hbad;by_cases ho : r ≤ last
     ·have hres := Lib.hid (Hat.out.order hX.out Hbad.out (by rw [← hla.out]; exact ho));have S := zen (.int .i64 10) (.int .i64 (k : Int)) (.cells #[.int .i64 r, .int .i64 t] 79) hs c0 c1;go_wp2_with fail;refine (zad B0 _).mono ?_;rintro e w' ⟨rfl, rfl⟩;go_wp2_with fail;refine (zad B1 _).mono ?_;rintro e w' ⟨rfl, rfl⟩;go_wp2;exact bodyPost_ret (v := .agg #[.int .i64 10, .int .i64 (k : Int)]) (by simp [results, Tryz.results70, go_sem, S.1, S.2]) rfl ⟨by rw [hv.out, hres.out]; rfl, (zai _ _ hbel (Nat.le_refl _)).alloc (by simp; omega) _⟩
     ·have hnext := Lib.hid (Hat.out.succ hX.out Hbad.out (by rw [← hla.out]; exact ho));have hl2 := Lib.hid (zjf l k r t hX.out);go_wp2_with fail;refine (zad B0 _).mono ?_;rintro e w' ⟨rfl, rfl⟩;go_wp2_with fail;refine (zad B1 _).mono ?_;rintro e w' ⟨rfl, rfl⟩;go_wp2;go_roundw
      case rel => exact ⟨k + 1, by omega, by go_num, by rw [hl2.out], hnext.out, (Two.mk c0 c1 f0 f1).below (zaa _ _), hbel.alloc (by omega) _⟩
      case measure => simp [intOf]; omega
   ·obtain rfl : k = n := by omega
    have hend := Lib.hid (Hat.out.all (by rw [hlen.out]; exact Nat.le_refl _));clear hlt;go_wp2_with fail;refine (zdy _).mono ?_;rintro e w' ⟨rfl, hb⟩;have hz := hb.size;have f0 := (hb.frozen (p := ⟨w.heap.size, 0, none⟩) hs).trans f0;have f1 := (hb.frozen (p := ⟨w.heap.size, 1, none⟩) hs).trans f1;have c0 := (hb.cell (p := ⟨w.heap.size, 0, none⟩) hs).trans c0;have c1 := (hb.cell (p := ⟨w.heap.size, 1, none⟩) hs).trans c1;have S := set2 (.int .i64 0) (.int .i64 (-1)) c0 c1;go_wp2;exact bodyPost_ret (v := .agg #[.int .i64 0, .int .i64 (-1)]) (by simp [results, Tryz.results70, go_sem, S.1, S.2]) rfl ⟨by rw [hv.out, hend.out]; rfl, zai _ _ (hbel.trans (hb.mono (by omega))) (Nat.le_refl _)⟩
end Go.Proofs.YtkejlnjnoiidnaaGreatDoor
end
