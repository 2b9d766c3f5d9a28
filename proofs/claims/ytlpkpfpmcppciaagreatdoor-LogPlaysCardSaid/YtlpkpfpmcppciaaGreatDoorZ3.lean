/- append to a slice of the call's own, as one step of a region that draws its order. Any program.

VectorJoin of the reference says what vjoin says. -/
import Derived.Test.YtlpkpfpmcppciaaGreatDoorZ1
import Derived.Deep.RegionLaw
import Derived.OwnWalk
import Derived.Test.YtlpkpfpmcppciaaGreatDoorZ2
import Derived.Maps.AppendAt
section
namespace Go.Proofs.YtlpkpfpmcppciaaGreatDoor
open Go Go.RowKit
theorem step_append_own {P : Program} {ops : Array Oper} {o : Oper} {a : Act} {w : World} {K : Act → World → Prop} {Q : Exit → Act → World → Prop} {E : Prop}
  (hg : o.guard = none) (s x : Operand) (t : TypeId) (ho : o.op = Op.call { callee := Callee.builtin Builtin.append, args := #[s, x], argTypes := #[t, t] })
  (base : Nat) (e : TypeId) (i : TypeInfo) (z : Value) (size bytes : Nat) (ht : P.underlying t = some (.slice e)) (hi : P.info? e = some i) (hz : i.zero = some z)
  (hsize : i.size = size) (hby : i.bytes = bytes) (hzs : z.cells.size = size) (hsz : 0 < size)
  (v : Value) (n : Nat) (xs : List Value) (hs : a.eval s = v) (hown : w.ownsRow base e size v n xs)
  (ad : Addr) (m c : Nat) (news : List Value) (hx : a.eval x = .slice (some ad) m c) (hl : news.length = m * size) (hnews : ∀ j u, news[j]? = some u → w.cell? (ad.add j) = some u) (h1 : ∀ u ∈ news, u.oneCell' = true)
  (h63 : n + m ≤ maxLen) (hbytes : (n + m) * bytes ≤ 140737488355328) (hbase : base ≤ w.heap.size)
  (h : ∀ v' w', w'.ownsRow base e size v' (n + m) (xs ++ news) → w.grownBy w' v.ownBlock → K (a.put o.dst v') w') :
  if Region.wanted o (yielded ops a.tmps) = true then Oper.wp P o a w K Q else E := by
 rw [if_pos (by simp [Region.wanted, hg])]
 exact wp_append_own w s x t ho base e i z size bytes ht hi hz hsize hby hzs hsz v n xs hs hown ad m c news hx hl hnews h1 h63 hbytes hbase fun v' w' h2 h3 _ => h v' w' h2 h3
theorem own_less {w : World} {base base' : Nat} {e : TypeId} {size n : Nat} {v : Value} {xs : List Value} (h : w.ownsRow base e size v n xs) (hb : base' ≤ base) : w.ownsRow base' e size v n xs := by
 refine ⟨h.1, ?_⟩
 rcases h.2 with hn | ⟨g, cap, cur, hv, hbg, r⟩
 ·exact .inl hn
 ·exact .inr ⟨g, cap, cur, hv, Nat.le_trans hb hbg, r⟩
end Go.Proofs.YtlpkpfpmcppciaaGreatDoor
end

section
namespace Go.Proofs.YtlpkpfpmcppciaaGreatDoor
open Go.RowKit As
theorem entInfo : (Tryz.prog.info? 73).map (fun i => (i.zero, i.size, i.bytes)) = some (some (.agg #[.int .i64 0, .int .i64 0]), 2, 16) := by kernel_rfl
abbrev entV (l : List Ent) : List Value := l.flatMap entCells
theorem entV_snoc {w : World} {base : Nat} {E : TypeId} {v : Value} {l : List Ent} {x : Ent} {n : Nat} (hn : l.length = n) (h : w.ownsRow base E 2 v (n + 1) (entV l ++ entCells x)) : w.ownsRow base E 2 v (l ++ [x]).length (entV (l ++ [x])) := by
 subst hn
 simpa [entV, List.flatMap_append] using h
theorem cells_ent (w : World) (a b : Value) (t : TypeId) : ∀ j u, ([a, b] : List Value)[j]? = some u → (w.alloc (.cells #[a, b] t)).cell? ((⟨w.heap.size, 0, none⟩ : Addr).add j) = some u := by
 intro j u hu
 have hadd : (⟨w.heap.size, 0, none⟩ : Addr).add j = ⟨w.heap.size, j, none⟩ := by unfold Addr.add; split <;> simp_all
 rw [hadd, World.cell?_alloc_new]
 simpa using hu
theorem own_is {w : World} {base : Nat} {e : TypeId} {size n m : Nat} {v : Value} {xs ys : List Value} (h : w.ownsRow base e size v n xs) (hn : n = m) (hx : xs = ys) : w.ownsRow base e size v m ys := by subst hn hx; exact h
/-- How far both know a replica. -/
def gmax (a b : List Ent) (r : Int) : Int := max (vof a r) (vof b r)
theorem join_bad {a b : List Ent} (h : (vright a).1 ≠ 0) : vjoin a b = ([], (vright a).1) := by unfold vjoin; rw [if_pos h]
theorem join_bad' {a b : List Ent} (h : (vright a).1 = 0) (h' : (vright b).1 ≠ 0) : vjoin a b = ([], (vright b).1) := by unfold vjoin; rw [if_neg (by omega), if_pos h']
theorem join_big {a b : List Ent} (h : (vright a).1 = 0) (h' : (vright b).1 = 0) (hl : 16 < (vmerge a b).length) : vjoin a b = ([], 4) := by unfold vjoin; rw [if_neg (by omega), if_neg (by omega), if_pos hl]
theorem join_good {a b : List Ent} (h : (vright a).1 = 0) (h' : (vright b).1 = 0) (hl : ¬ 16 < (vmerge a b).length) : vjoin a b = (vmerge a b, 0) := by unfold vjoin; rw [if_neg (by omega), if_neg (by omega), if_neg hl]
theorem canon_yes {g : Int → Int} {k : Nat} {m : Int} (hm : g (k : Int) = m) (h : 0 < m) : canon g 0 (k + 1) = canon g 0 k ++ [((k : Int), m)] := by subst hm; rw [canon_snoc, if_pos h]
theorem canon_no {g : Int → Int} {k : Nat} {m : Int} (hm : g (k : Int) = m) (h : ¬ 0 < m) : canon g 0 (k + 1) = canon g 0 k := by subst hm; rw [canon_snoc, if_neg h, List.append_nil]
set_option maxHeartbeats 2000000 in
set_option maxRecDepth 100000 in
theorem rvjoin_any (w : World) (n c n' c' : Nat) (A A' : Option Addr) (l l' : List Ent) (hl : Ents w w.heap.size A n l) (hl' : Ents w w.heap.size A' n' l') (hn : n ≤ maxLen) (hn' : n' ≤ maxLen) :
  Calls Tryz.prog 46 #[.slice A n c, .slice A' n' c'] w fun e w' => ∃ v, e = .returned (.tuple #[v, .int .i64 (vjoin l l').2]) ∧ w'.ownsRow w.heap.size 73 2 v (vjoin l l').1.length (entV (vjoin l l').1) ∧ Below w.heap.size w w' := by
 obtain ⟨i0, hi, hz0, hz1, hz2⟩ := info_parts entInfo
 go_enter Tryz.func46, Tryz.ntmps46
 go_wp2_with fail
 refine (rvright_any w n c A l hl hn).mono ?_
 rintro r w1 ⟨rfl, hb1⟩
 unfold faultV
 go_wp2_with fail
 have hk1 := below1 w1 (.cells #[.int .i64 (vright l).1, .int .i64 (vright l).2] 44)
 have T1 := Two.new w1 (vright l).1 (vright l).2 44
 refine (is_any (vright l) _).mono ?_
 rintro r w2 ⟨rfl, hb2⟩
 obtain ⟨g0, g1, _, _⟩ := T1.below hb2
 have hb11 := hb1.trans (hk1.mono hb1.size)
 have hb12 := hb11.trans (hb2.mono hb11.size)
 clear hk1 T1 hb2 hb1 hb11
 by_cases h1 : (vright l).1 = 0
 ·have e1 : ((vright l).1 == 0) = true := by simpa using h1
  rw [e1]
  clear e1 g0 g1
  go_wp2_with fail
  refine (rvright_any _ n' c' A' l' (hl'.grow hb12) hn').mono ?_
  rintro r w3 ⟨rfl, hb3⟩
  unfold faultV
  go_wp2_with fail
  have hk3 := below1 w3 (.cells #[.int .i64 (vright l').1, .int .i64 (vright l').2] 44)
  have T3 := Two.new w3 (vright l').1 (vright l').2 44
  refine (is_any (vright l') _).mono ?_
  rintro r w4 ⟨rfl, hb4⟩
  obtain ⟨g0, g1, _, _⟩ := T3.below hb4
  have hb13 := hb12.trans (hb3.mono hb12.size)
  have hb13' := hb13.trans (hk3.mono hb13.size)
  have hb14 := hb13'.trans (hb4.mono hb13'.size)
  clear hk3 T3 hb3 hb4 hb13 hb13' hb12
  by_cases h2 : (vright l').1 = 0
  ·have e1 : ((vright l').1 == 0) = true := by simpa using h2
   rw [e1]
   clear e1 g0 g1
   have HM := Lib.hid (canon_merge (rises_of h1) (rises_of h2))
   have H1 := Lib.hid h1
   have H2 := Lib.hid h2
   clear h1 h2
   go_wp2
   go_loopw [8, 9, 10] (fun v r _ wr => ∃ k : Nat, k ≤ 201 ∧ r = .int .i64 k ∧ wr.ownsRow w.heap.size 73 2 v (canon (gmax l l') 0 k).length (entV (canon (gmax l l') 0 k)) ∧ Below w.heap.size w wr) (fun _ r _ _ => 201 - (intOf r).toNat)
   case atStart => exact ⟨0, by omega, rfl, World.ownsRow_nil _ _ _ _, hb14⟩
   case round =>
    obtain ⟨k, hk, rfl, hT, hbel⟩ := hrel
    have hB := hbel.size
    by_cases hlt : k < 201
    ·have el := hl.grow hbel
     have el' := hl'.grow hbel
     have hcl := canon_len (gmax l l') 0 k
     obtain ⟨m, hm⟩ : ∃ m, m = gmax l l' k := ⟨_, rfl⟩
     have hm' : (if vof l (k : Int) < vof l' (k : Int) then vof l' (k : Int) else vof l (k : Int)) = m := by rw [hm]; unfold gmax; split <;> omega
     have e0 : decide ((k : Int) ≤ 200) = true := by simp; omega
     by_cases hp : 0 < m
     ·have hnx := Lib.hid (canon_yes hm.symm hp)
      have d0 : decide (0 < m) = true := by simpa using hp
      clear hm
      obtain ⟨L, hL⟩ : ∃ L, L = canon (gmax l l') 0 k := ⟨_, rfl⟩
      rw [← hL] at hT hcl hnx
      clear hL
      go_wp2_with fail
      refine (rof_any wr n c A l k el hn).mono ?_
      rintro r w5 ⟨rfl, rfl⟩
      go_wp2_with fail
      refine (rof_any wr n' c' A' l' k el' hn').mono ?_
      rintro r w5 ⟨rfl, rfl⟩
      go_wp2_with (first
       | (at_builtin; refine wpList_append_own _ rfl (.tmp 38) (.tmp 42) 24 rfl w.heap.size 73 i0 (.agg #[.int .i64 0, .int .i64 0]) 2 16 Tryz.underlying24 hi hz0 hz1 hz2 rfl (by decide) u8 L.length (entV L) rfl (hT.alloc _) ⟨wr.heap.size, 0, none⟩ 1 1 [.int .i64 (k : Int), .int .i64 m] rfl rfl (cells_ent _ _ _ _) (by intro u hu; simp at hu; rcases hu with rfl | rfl <;> rfl) (by unfold maxLen; omega) (by omega) (by simp; omega) ?_; intro v1 w6 hT2 hg2 _; have hb6 := grown_own (hbel.alloc hB _) hg2 (by simp; omega) (hT.alloc _); have hT3 := entV_snoc (x := ((k : Int), m)) rfl hT2))
      go_roundw
      case rel => exact ⟨k + 1, by omega, by go_num, by rw [hnx.out]; exact hT3, hb6⟩
      case measure => simp [intOf]; omega
     ·have hnx := Lib.hid (canon_no hm.symm hp)
      have d0 : decide (0 < m) = false := by simpa using hp
      clear hm
      go_wp2_with fail
      refine (rof_any wr n c A l k el hn).mono ?_
      rintro r w5 ⟨rfl, rfl⟩
      go_wp2_with fail
      refine (rof_any wr n' c' A' l' k el' hn').mono ?_
      rintro r w5 ⟨rfl, rfl⟩
      go_wp2_with fail
      go_roundw
      case rel => exact ⟨k + 1, by omega, by go_num, by rw [hnx.out]; exact hT, hbel⟩
      case measure => simp [intOf]; omega
    ·obtain rfl : k = 201 := by omega
     have hT' := own_is hT (congrArg List.length HM.out) (congrArg entV HM.out)
     by_cases hbig : 16 < (vmerge l l').length
     ·have hr := Lib.hid (join_big H1.out H2.out hbig)
      have d0 : decide (16 < (vmerge l l').length) = true := by simpa using hbig
      obtain ⟨A9, c9, rfl⟩ := own_form hT'
      go_wp2
      go_ret2
      refine ⟨_, by rw [hr.out]; rfl, ?_, hbel⟩
      rw [hr.out]; exact World.ownsRow_nil _ _ _ _
     ·have hr := Lib.hid (join_good H1.out H2.out hbig)
      have d0 : decide (16 < (vmerge l l').length) = false := by simpa using hbig
      obtain ⟨A9, c9, rfl⟩ := own_form hT'
      go_wp2
      go_ret2
      refine ⟨_, by rw [hr.out]; rfl, ?_, hbel⟩
      rw [hr.out]; exact hT'
  ·have hr := Lib.hid (join_bad' h1 h2)
   have e1 : ((vright l').1 == 0) = false := by simpa using h2
   rw [e1]
   clear e1 h1 h2
   go_wp2
   go_quiet (fail)
   go_wp2
   go_ret2
   refine ⟨_, by rw [hr.out]; rfl, ?_, below_drewN hb14 _⟩
   rw [hr.out]; exact World.ownsRow_nil _ _ _ _
 ·have hr := Lib.hid (join_bad (b := l') h1)
  have e1 : ((vright l).1 == 0) = false := by simpa using h1
  rw [e1]
  clear e1 h1
  go_wp2
  go_quiet (fail)
  go_wp2
  go_ret2
  refine ⟨_, by rw [hr.out]; rfl, ?_, below_drewN hb12 _⟩
  rw [hr.out]; exact World.ownsRow_nil _ _ _ _
end Go.Proofs.YtlpkpfpmcppciaaGreatDoor
end
