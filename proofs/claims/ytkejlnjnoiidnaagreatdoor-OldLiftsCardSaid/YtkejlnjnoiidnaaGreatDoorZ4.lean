/- span.Put, span.Get and Span, Unspan of the reference say what spanOf and unspan say. -/
import Derived.Test.YtkejlnjnoiidnaaGreatDoorZ1
import Derived.Test.YtkejlnjnoiidnaaGreatDoorZ3
import Derived.Deep.RegionLaw
import Derived.OwnWalk
import Derived.Test.YtkejlnjnoiidnaaGreatDoorZ2
import Derived.Test.YtkejlnjnoiidnaaGreatDoorShelfJoin
import Derived.Deep.RegionHeld3
import Derived.Test.YtkejlnjnoiidnaaGreatDoorProg
import Derived.WalkKit
import Derived.WalkLawsBesides
import Derived.WalkSpells
import Derived.Outline
import Derived.Lib.Hide
import Derived.Deep.QuietTactic
import Derived.BigQuiet
import Derived.Deep.Draws
import Derived.IntWalk
import Derived.Deep.DeepCutAuto
import Derived.Deep.Cut
import Derived.Deep.CutBlock
set_option linter.unusedSimpArgs false
set_option linter.unusedVariables false
section
namespace Go.Proofs.YtkejlnjnoiidnaaGreatDoor
open Go.RowKit As
theorem zas (l : List UInt8) : (strOf l).size = l.length := by show l.toArray.size = _; simp
theorem yml {v v' u u' x x' : Value} (h1 : v = v') (h2 : u = u') (h3 : x = x') : Ending.returned (.tuple #[v, u, x]) = .returned (.tuple #[v', u', x']) := by rw [h1, h2, h3]
set_option maxRecDepth 100000 in
theorem zjd (s : ByteArray) (w : World) (hs : s.size ≤ maxLen) :
  Calls Tryz.prog 39 #[.string s] w fun e w' => e = .returned (.tuple #[.string (zfo s).1, errV (zfo s).2]) ∧ Below w.heap.size w w' := by
 unfold maxLen at hs;by_cases hbig : 2000 < s.size
 ·have H : zfo s = (strOf [], 4) := by unfold zfo; rw [if_pos hbig]
  have HS := Lib.hid H;clear H;have hd : decide (2000 < s.size) = true := by simpa using hbig
  go_enter Tryz.func39, Tryz.ntmps39;go_wp2;go_ret2;exact ⟨by rw [HS.out]; rfl, Below.refl _ _⟩
 ·have H : zfo s = (strOf (vput s.size) ++ s, 0) := by unfold zfo; rw [if_neg hbig]
  have HS := Lib.hid H;clear H;have hd : decide (2000 < s.size) = false := by simpa using hbig
  have hl := zae (n := s.size) (by omega);rw [← zas] at hl;go_enter Tryz.func39, Tryz.ntmps39;go_wp2_with fail;refine (zbm s.size w (by omega)).mono ?_;rintro e w' ⟨rfl, hb⟩;obtain ⟨t, ht⟩ : ∃ t, t = strOf (vput s.size) := ⟨_, rfl⟩;rw [← ht] at hl;have hE : (⟨(vput s.size).toArray⟩ : ByteArray) = t := ht.symm;rw [hE];have HT := Lib.hid ht;clear ht hE;have hcat : t.size + s.size ≤ 9223372036854775807 := by omega
  go_wp2_with fail;go_ret2;exact ⟨by rw [HS.out, HT.out]; rfl, hb⟩
set_option maxRecDepth 100000 in
theorem ztb (s : ByteArray) (w : World) (hs : s.size ≤ maxLen) :
  Calls Tryz.prog 32 #[.string s] w fun e w' => e = .returned (.tuple #[.string (zfo s).1, .int .i64 (zfo s).2]) ∧ Below w.heap.size w w' := by
 unfold maxLen at hs;by_cases hbig : 2000 < s.size
 ·have H : zfo s = (strOf [], 4) := by unfold zfo; rw [if_pos hbig]
  have HS := Lib.hid H;clear H;have hd : decide (2000 < s.size) = true := by simpa using hbig
  go_enter Tryz.func32, Tryz.ntmps32;go_wp2;go_ret2;exact ⟨by rw [HS.out]; rfl, Below.refl _ _⟩
 ·have H : zfo s = (strOf (vput s.size) ++ s, 0) := by unfold zfo; rw [if_neg hbig]
  have HS := Lib.hid H;clear H;have hd : decide (2000 < s.size) = false := by simpa using hbig
  have hl := zae (n := s.size) (by omega);rw [← zas] at hl;go_enter Tryz.func32, Tryz.ntmps32;go_wp2_with fail;refine (zbw s.size w (by omega)).mono ?_;rintro e w' ⟨rfl, hb⟩;obtain ⟨t, ht⟩ : ∃ t, t = strOf (vput s.size) := ⟨_, rfl⟩;rw [← ht] at hl;have hE : (⟨(vput s.size).toArray⟩ : ByteArray) = t := ht.symm;rw [hE];have HT := Lib.hid ht;clear ht hE;have hcat : t.size + s.size ≤ 9223372036854775807 := by omega
  go_wp2_with fail;go_ret2;exact ⟨by rw [HS.out, HT.out]; rfl, hb⟩
set_option maxRecDepth 100000 in
theorem zgl (s : ByteArray) (w : World) (hs : s.size ≤ maxLen) :
  Calls Tryz.prog 55 #[.string s] w fun e w' => e = .returned (.tuple #[.string (zaq s).1, .int .i64 ((zaq s).2.1 : Int), .int .i64 (zaq s).2.2]) ∧ w = w' := by
 have hS := Lib.hid hs;unfold maxLen at hs;have hsay := zdw s.data.toList;have hU : zaq s = zaq s := rfl;obtain ⟨u, hu⟩ : ∃ u, u = zaq s := ⟨_, rfl⟩;rw [← hu];unfold zaq at hu;clear hU;obtain ⟨g, hg⟩ : ∃ g, g = vget s.data.toList := ⟨_, rfl⟩;rw [← hg] at hu hsay;have HG := Lib.hid hg;clear hg;obtain ⟨n, k, e⟩ := g;simp only at hu hsay;by_cases he : e = 0
 ·subst he;have hb : n < 18446744073709551616 ∧ 0 < k ∧ k ≤ 10 ∧ k ≤ s.size := by
   rcases hsay with h | h | h | h
   ·simpa using h
   all_goals (injection h with h1 h2; injection h2 with h2 h3; omega)
  obtain ⟨hn, hk0, hk10, hks⟩ := hb;clear hsay;rw [if_neg (by simp)] at hu;by_cases h1 : 2000 < n
  ·rw [if_pos h1] at hu;subst hu;go_enter Tryz.func55, Tryz.ntmps55;go_wp2_with fail;refine (zcq s w hS.out).mono ?_;rintro r w' ⟨rfl, rfl⟩;rw [← HG.out];go_wp2;go_ret3;exact ⟨rfl, rfl⟩
  ·rw [if_neg h1] at hu;by_cases h2 : s.size < n + k
   ·rw [if_pos h2] at hu;subst hu;go_enter Tryz.func55, Tryz.ntmps55;go_wp2_with fail;refine (zcq s w hS.out).mono ?_;rintro r w' ⟨rfl, rfl⟩;rw [← HG.out];go_wp2;go_ret3;exact ⟨rfl, rfl⟩
   ·rw [if_neg h2] at hu;subst hu;go_enter Tryz.func55, Tryz.ntmps55;go_wp2_with fail;refine (zcq s w hS.out).mono ?_;rintro r w' ⟨rfl, rfl⟩;rw [← HG.out];go_wp2;go_ret3;exact ⟨rfl, rfl⟩
 ·rw [if_pos he] at hu;subst hu;go_enter Tryz.func55, Tryz.ntmps55;have hne : (e != 0) = true := by rw [bne_iff_ne]; exact he
  go_wp2_with fail;refine (zcq s w hS.out).mono ?_;rintro r w' ⟨rfl, rfl⟩;rw [← HG.out];go_wp2;go_ret3;exact ⟨rfl, rfl⟩
set_option maxHeartbeats 1000000 in
set_option maxRecDepth 100000 in
theorem zgr (s : ByteArray) (w : World) (hs : s.size ≤ maxLen) (hg : zbh w) :
  Calls Tryz.prog 105 #[.string s] w fun e w' => e = .returned (.tuple #[.string (zaq s).1, .int .i64 ((zaq s).2.1 : Int), errV (zaq s).2.2]) ∧ Below w.heap.size w w' := by
 have hS := Lib.hid hs;unfold maxLen at hs;have hsay := zdw s.data.toList;obtain ⟨u, hu⟩ : ∃ u, u = zaq s := ⟨_, rfl⟩;rw [← hu];unfold zaq at hu;obtain ⟨v, hv⟩ : ∃ v, v = vint s.data.toList 2000 := ⟨_, rfl⟩;have HV := Lib.hid hv;unfold vint at hv;generalize vget s.data.toList = g at *;obtain ⟨n, k, e⟩ := g;simp only at hu hsay hv;by_cases he : e = 0
 ·subst he;have hb : n < 18446744073709551616 ∧ 0 < k ∧ k ≤ 10 ∧ k ≤ s.size := by
   rcases hsay with h | h | h | h
   ·simpa using h
   all_goals (injection h with h1 h2; injection h2 with h2 h3; omega)
  obtain ⟨hn, hk0, hk10, hks⟩ := hb;clear hsay;rw [if_neg (by simp)] at hu hv;by_cases h1 : 2000 < n
  ·rw [if_pos h1] at hu;rw [if_pos (by right; omega)] at hv;subst hu hv;go_enter Tryz.func105, Tryz.ntmps105;go_wp2_with fail;refine (zdn s 2000 w hS.out (by omega)).mono ?_;rintro r w' ⟨rfl, rfl⟩;rw [← HV.out];go_wp2_with fail;refine (zde (zfz w 2) hg).mono ?_;rintro r w1 ⟨rfl, hb⟩;go_wp2;go_ret3;exact ⟨rfl, hb⟩
  ·rw [if_neg h1] at hu;rw [if_neg (by omega)] at hv;subst hv;by_cases h2 : s.size < n + k
   ·rw [if_pos h2] at hu;subst hu;go_enter Tryz.func105, Tryz.ntmps105;go_wp2_with fail;refine (zdn s 2000 w hS.out (by omega)).mono ?_;rintro r w' ⟨rfl, rfl⟩;rw [← HV.out];simp only [zak];go_wp2_with fail;refine (zlw w).mono ?_;rintro r w1 ⟨rfl, rfl⟩;go_wp2;go_ret3;exact ⟨rfl, Below.refl _ _⟩
   ·rw [if_neg h2] at hu;subst hu;go_enter Tryz.func105, Tryz.ntmps105;go_wp2_with fail;refine (zdn s 2000 w hS.out (by omega)).mono ?_;rintro r w' ⟨rfl, rfl⟩;rw [← HV.out];simp only [zak];go_wp2_with fail;refine (zlw w).mono ?_;rintro r w1 ⟨rfl, rfl⟩;go_wp2;go_ret3;exact ⟨rfl, Below.refl _ _⟩
 ·rw [if_pos he] at hu hv;subst hu hv;have he2 : e ≠ 2 := by
   rcases hsay with h | h | h | h
   ·exact absurd h.1 he
   all_goals (injection h with h1 h2; injection h2 with h2 h3; omega)
  have hne : (e == 2) = false := beq_eq_false_iff_ne.2 he2;clear hsay;have hE := Lib.hid (zau he);go_enter Tryz.func105, Tryz.ntmps105;go_wp2_with fail;refine (zdn s 2000 w hS.out (by omega)).mono ?_;rintro r w' ⟨rfl, rfl⟩;rw [← HV.out];simp only [hE.out];go_wp2_with fail;refine (zkx e w hg).mono ?_;rintro r w1 ⟨rfl, hb⟩;go_wp2;go_ret3;exact ⟨yml rfl rfl hE.out.symm, hb⟩
end Go.Proofs.YtkejlnjnoiidnaaGreatDoor
end

section
namespace Go.Proofs.YtkejlnjnoiidnaaGreatDoor
open Go Go.RowKit
theorem zhf {P : Program} {ops : Array Oper} {o : Oper} {a : Act} {w : World} {K : Act → World → Prop} {Q : Exit → Act → World → Prop} {E : Prop}
  (hg : o.guard = none) (s x : Operand) (t : TypeId) (ho : o.op = Op.call { callee := Callee.builtin Builtin.append, args := #[s, x], argTypes := #[t, t] })
  (base : Nat) (e : TypeId) (i : TypeInfo) (z : Value) (size bytes : Nat) (ht : P.underlying t = some (.slice e)) (hi : P.info? e = some i) (hz : i.zero = some z)
  (hsize : i.size = size) (hby : i.bytes = bytes) (hzs : z.cells.size = size) (hsz : 0 < size)
  (v : Value) (n : Nat) (xs : List Value) (hs : a.eval s = v) (hown : w.ownsRow base e size v n xs)
  (ad : Addr) (m c : Nat) (news : List Value) (hx : a.eval x = .slice (some ad) m c) (hl : news.length = m * size) (hnews : ∀ j u, news[j]? = some u → w.cell? (ad.add j) = some u) (h1 : ∀ u ∈ news, u.oneCell' = true)
  (h63 : n + m ≤ maxLen) (hbytes : (n + m) * bytes ≤ 140737488355328) (hbase : base ≤ w.heap.size)
  (h : ∀ v' w', w'.ownsRow base e size v' (n + m) (xs ++ news) → w.grownBy w' v.ownBlock → K (a.put o.dst v') w') :
  if Region.wanted o (yielded ops a.tmps) = true then Oper.wp P o a w K Q else E := by
 rw [if_pos (by simp [Region.wanted, hg])];exact wp_append_own w s x t ho base e i z size bytes ht hi hz hsize hby hzs hsz v n xs hs hown ad m c news hx hl hnews h1 h63 hbytes hbase fun v' w' h2 h3 _ => h v' w' h2 h3
theorem zab {w : World} {base : Nat} {e : TypeId} {size n : Nat} {v : Value} {xs : List Value} {s j : Nat} (x : Value) (h : w.ownsRow base e size v n xs) (hs : s < base) : (w.setCell ⟨s, j, none⟩ x).ownsRow base e size v n xs := by
 refine h.kept (row := some s) ⟨rfl, rfl, rfl, by simp, fun k _ hk => heap_setCell_other w ⟨s, j, none⟩ k x (fun e => hk (by simp [e]))⟩ ?_;cases hv : v.ownBlock with
 | none => exact .inl rfl
 | some k =>
  have := (h.lt k hv).1;exact .inr (by simp; omega)
theorem zei {w : World} {base base' : Nat} {e : TypeId} {size n : Nat} {v : Value} {xs : List Value} (h : w.ownsRow base e size v n xs) (hb : base' ≤ base) : w.ownsRow base' e size v n xs := by
 refine ⟨h.1, ?_⟩;rcases h.2 with hn | ⟨g, cap, cur, hv, hbg, r⟩
 ·exact .inl hn
 ·exact .inr ⟨g, cap, cur, hv, Nat.le_trans hb hbg, r⟩
end Go.Proofs.YtkejlnjnoiidnaaGreatDoor
end

section
namespace Go.Proofs.YtkejlnjnoiidnaaGreatDoor
open Go.RowKit As
theorem zfy : (Tryz.prog.info? 9).map (fun i => (i.zero, i.size, i.bytes)) = some (some (.string ⟨#[]⟩), 1, 16) := by kernel_rfl
theorem zfi {w : World} {base : Nat} {E : TypeId} {v : Value} {l : List ByteArray} {b : ByteArray} {n : Nat} (hn : l.length = n) (h : w.ownsRow base E 1 v (n + 1) (l.map Value.string ++ [Value.string b])) : w.ownsRow base E 1 v (l ++ [b]).length ((l ++ [b]).map Value.string) := by
 subst hn; simpa using h
theorem ownsRow_below {w w' : World} {base : Nat} {e : TypeId} {size n : Nat} {v : Value} {xs : List Value} (h : w.ownsRow base e size v n xs) (hb : Below w.heap.size w w') (_ : base ≤ w.heap.size) : w'.ownsRow base e size v n xs := by
 refine h.kept (row := none) ⟨hb.os, hb.tape, hb.output, hb.size, fun i hi _ => hb.block i hi⟩ ?_;cases v.ownBlock with
 | none => exact .inl rfl
 | some k => exact .inr (by simp)
end Go.Proofs.YtkejlnjnoiidnaaGreatDoor
end

section
namespace Go.Proofs.YtkejlnjnoiidnaaGreatDoor
open Go.RowKit As
def zli (t : Tok) : List ByteArray := if t.1.size ≠ 0 then [strOf (vput (2 * t.1.size)), t.1] else [strOf (vput (2 * (t.2.2 - 4).toNat + 1)), strOf (vput (t.2.1 - 1).toNat)]
def zgc (l : List Tok) (k : Nat) : List ByteArray := (l.take k).flatMap zli
theorem zwe {l : List Tok} {k : Nat} {t : Tok} (h : l[k]? = some t) : zgc l (k + 1) = zgc l k ++ zli t := by
 obtain ⟨hk, e⟩ := List.getElem?_eq_some_iff.1 h;unfold zgc;rw [List.take_succ_eq_append_getElem hk, e, List.flatMap_append]; simp
theorem ztm (t : Tok) : ((zli t).map fun x => x.data.toList).flatten = zfs t := by
 unfold zli zfs;split <;> simp [strOf]
theorem zro (l : List Tok) : ∀ k, ((zgc l k).map fun x => x.data.toList).flatten = zef l k := by
 intro k;unfold zgc zef;induction l.take k with
 | nil => rfl
 | cons t l ih => simp only [List.flatMap_cons, List.map_append, List.flatten_append, ih, ztm]
theorem ydx (xs : List (List UInt8)) : Lib.join xs [] = xs.flatten := by
 unfold Lib.join;induction xs with
 | nil => rfl
 | cons x xs ih =>
  cases xs with
  | nil => simp [List.intercalate]
  | cons y ys =>
   have e : List.intercalate [] (x :: y :: ys) = x ++ ([] ++ List.intercalate [] (y :: ys)) := by
    simp [List.intercalate, List.intersperse]
   rw [e, ih]; simp
theorem zpl (w : World) (a b : Value) (t : TypeId) : ∀ j u, ([a, b] : List Value)[j]? = some u → (w.alloc (.cells #[a, b] t)).cell? ((⟨w.heap.size, 0, none⟩ : Addr).add j) = some u := by
 intro j u hu;have hadd : (⟨w.heap.size, 0, none⟩ : Addr).add j = ⟨w.heap.size, j, none⟩ := by unfold Addr.add; split <;> simp_all
 rw [hadd, World.cell?_alloc_new];simpa using hu
theorem zoy {w : World} {base : Nat} {E : TypeId} {v : Value} {l : List ByteArray} {a b : ByteArray} {n : Nat} (hn : l.length = n) (h : w.ownsRow base E 1 v (n + 2) (l.map Value.string ++ [Value.string a, Value.string b])) : w.ownsRow base E 1 v (l ++ [a, b]).length ((l ++ [a, b]).map Value.string) := by
 subst hn; simpa using h
theorem zqn {n : Nat} {V : ByteArray} (hV : Hid (V = strOf (vput n))) (hn : n < 18446744073709551616) (w : World) : Calls Tryz.prog 31 #[.int .u64 (n : Int)] w fun e w' => e = .returned (.string V) ∧ Below w.heap.size w w' :=
 (zbw n w hn).mono fun _ _ h => ⟨by rw [hV.out]; exact h.1, h.2⟩
set_option maxHeartbeats 4000000 in
set_option maxRecDepth 100000 in
theorem zvd (w : World) (n c : Nat) (A : Option Addr) (l : List Tok) (hl : Toks w w.heap.size A n l) (hn : n * 32 ≤ 140737488351232) :
  Calls Tryz.prog 93 #[.slice A n c] w fun e w' => e = .returned (.tuple #[.string (zgx l).1, zba (zgx l).2]) ∧ Below w.heap.size w w' := by
 obtain ⟨i0, hi, hz0, hz1, hz2⟩ := info_parts zfy;have hlen := Lib.hid hl.len;have hnM : n ≤ maxLen := by unfold maxLen; omega
 by_cases hbad : (zaz l).1 ≠ 0
 ·have HB := Lib.hid hbad;have hR := Lib.hid (zon hbad);clear hbad;go_enter Tryz.func93, Tryz.ntmps93;go_wp2_with fail;refine (zfp _ n c A l (hl.grow (zaa _ _)) hnM).mono ?_;rintro e w1 ⟨rfl, hb⟩;unfold zba;have hbad := HB.out;generalize hF : zaz l = f at *;clear hF;obtain ⟨e1, p1⟩ := f;simp only at hbad;go_wp2_with fail;refine (zcd (e1, p1) _).mono ?_;rintro r w2 ⟨rfl, hb2⟩;have hne : (e1 == 0) = false := beq_eq_false_iff_ne.2 hbad;have T0 := (((Two.new w 0 0 29).below hb).below (zaa w1 (.cells #[.int .i64 e1, .int .i64 p1] 29))).below hb2;have T1 := (Two.new w1 e1 p1 29).below hb2;have hz := hb.size;simp only [World.size_alloc] at hz;have hbb : Below w.heap.size w w2 := ((zaa _ _).trans (hb.mono (by simp))).trans (((zaa w1 _).trans (hb2.mono (by simp))).mono (by omega));obtain ⟨c0, c1, f0, f1⟩ := T0;obtain ⟨d0, d1, g0, g1⟩ := T1;simp only [hne];go_wp2_with fail;go_region;have S := set2 (.int .i64 e1) (.int .i64 p1) c0 c1;go_wp2;exact bodyPost_ret (v := .tuple #[.string ⟨#[]⟩, .agg #[.int .i64 e1, .int .i64 p1]]) (by simp [results, Tryz.results93, go_sem, S.1, S.2]) rfl ⟨by rw [hR.out]; rfl, (zai _ _ hbb (Nat.le_refl _)).drew⟩
 ·have h0 : (zaz l).1 = 0 := by omega
  have hok := Lib.hid (zhu h0);have hP := Lib.hid (zfr h0);have hR := Lib.hid (znq h0);clear hbad h0;go_enter Tryz.func93, Tryz.ntmps93;go_wp2_with fail;refine (zfp _ n c A l (hl.grow (zaa _ _)) hnM).mono ?_;rintro e w1 ⟨rfl, hb⟩;rw [hP.out];unfold zba;go_wp2_with fail;refine (zcd (0, -1) _).mono ?_;rintro r w2 ⟨rfl, hb2⟩;have hne : ((0 : Int) == 0) = true := rfl;have T0 := (((Two.new w 0 0 29).below hb).below (zaa w1 (.cells #[.int .i64 0, .int .i64 (-1)] 29))).below hb2;have hz := hb.size;simp only [World.size_alloc] at hz;have hbb : Below w.heap.size w w2 := ((zaa _ _).trans (hb.mono (by simp))).trans (((zaa w1 _).trans (hb2.mono (by simp))).mono (by omega));have hl2 := hl.grow hbb;have hw0 : w.heap.size < w2.heap.size := T0.lt;simp only [hne];clear hb hb2 hz hl;go_wp2;go_loopw [5, 7, 16] (fun v _ i wr => ∃ k q : Nat, k ≤ n ∧ i = .int .i64 k ∧ TOk (l.drop k) q ∧ k ≤ q ∧ Hid ((zef l k).length ≤ q + 30 * k) ∧ wr.ownsRow w2.heap.size 9 1 v (zgc l k).length ((zgc l k).map Value.string) ∧ Hid ((zgc l k).length ≤ 2 * k) ∧ Below w2.heap.size w2 wr) (fun _ _ i _ => n - (intOf i).toNat)
  case atStart => exact ⟨0, 0, by omega, rfl, hok.out, by omega, Lib.hid (by simp [zef]), World.ownsRow_nil _ _ _ _, Lib.hid (by simp [zgc]), Below.refl _ _⟩
  case round =>
   obtain ⟨k, q, hk, rfl, hto, hkq, hbl, hT, hpl, hbel⟩ := hrel;have hB := hbel.size;have hle := hto.le;have hpl2 := hpl.out;by_cases hlt : k < n
   ·obtain ⟨b, o, s, r, t, rfl, hb', hx, hf, c0, c1, c2⟩ := hl2.at_ hlt;have c0 := (hbel.cell (p := ⟨b, o + k * 3, none⟩) (by simp; omega)).trans c0;have c1 := (hbel.cell (p := ⟨b, o + k * 3 + 1, none⟩) (by simp; omega)).trans c1;have c2 := (hbel.cell (p := ⟨b, o + k * 3 + 2, none⟩) (by simp; omega)).trans c2;have hsf := Lib.hid (zwe hx);have hsb := Lib.hid (zni hx);obtain ⟨L, hL⟩ : ∃ L, L = zgc l k := ⟨_, rfl⟩;rw [← hL] at hT hpl2 hsf;have HL := Lib.hid hL;clear hL;by_cases h1 : s.size = 0
    ·obtain ⟨q0, q1, q2, q3, q4, q5⟩ := zqg hto hx h1;simp only at q0 q1 q2 q3 q4 q5;have htb := Lib.hid (zor (t := (s, r, t)) h1);obtain ⟨z, rfl⟩ := Int.eq_ofNat_of_zero_le (show 0 ≤ t by omega);obtain ⟨y, rfl⟩ := Int.eq_ofNat_of_zero_le (show 0 ≤ r by omega);have hz0' : ((z : Int) == 0) = false := by rw [beq_eq_false_iff_ne]; omega
     have a1 : ((z : Int) - 4).toNat = z - 4 := by omega
     have a2 : ((y : Int) - 1).toNat = y - 1 := by omega
     have htb2 := Lib.hid (show zfs (s, (y : Int), (z : Int)) = vput (2 * (z - 4) + 1) ++ vput (y - 1) by rw [htb.out]; simp only [a1, a2]);have htp := Lib.hid (show zli (s, (y : Int), (z : Int)) = [strOf (vput (2 * (z - 4) + 1)), strOf (vput (y - 1))] by unfold zli; rw [if_neg (by simpa using h1)]; simp only [a1, a2]);obtain ⟨Z, hZ⟩ : ∃ Z, Z = z - 4 := ⟨_, rfl⟩;obtain ⟨N1, hN1⟩ : ∃ N1, N1 = 2 * (z - 4) + 1 := ⟨_, rfl⟩;obtain ⟨N2, hN2⟩ : ∃ N2, N2 = y - 1 := ⟨_, rfl⟩;rw [← hN1, ← hN2] at htb2 htp;have e1 : IntKind.i64.wrap ((z : Int) - 4) = (Z : Int) := by rw [IntWalk.i64_in _ (by omega)]; omega
     have e2 : IntKind.i64.wrap ((y : Int) - 1) = (N2 : Int) := by rw [IntWalk.i64_in _ (by omega)]; omega
     have hu1 := Lib.hid (show IntKind.u64.wrap (IntKind.i64.wrap (2 * (Z : Int) + 1)) = (N1 : Int) by rw [IntWalk.i64_in _ (by omega), IntKind.wrap_u64]; omega);have hu2 := Lib.hid (show IntKind.u64.wrap (N2 : Int) = (N2 : Int) by rw [IntKind.wrap_u64]; omega);have e3 : IntKind.i64.wrap (2 * (Z : Int)) = 2 * (Z : Int) := by rw [IntWalk.i64_in _ (by omega)]
     have hZs : Z ≤ 67 := by omega
     have X := Lib.hid hx;have Q5 := Lib.hid q5;have hlt1 : N1 < 18446744073709551616 := by omega
     have hlt2 : N2 < 18446744073709551616 := by omega
     clear hZ hN1 hN2;obtain ⟨V, hV⟩ : ∃ V, Hid (V = strOf (vput N1)) := ⟨_, Lib.hid rfl⟩;obtain ⟨U, hU⟩ : ∃ U, Hid (U = strOf (vput N2)) := ⟨_, Lib.hid rfl⟩;have HBL := Lib.hid hbl.out;clear hto hx hf q5 hpl hbl a1 a2;go_wp2;have k0 : (wr.alloc (.cells #[.string s, .int .i64 y, .int .i64 z] 174)).cell? ⟨wr.heap.size, 1, none⟩ = some (.int .i64 y) := by rw [World.cell?_alloc_new]; rfl
     have k1 : (wr.alloc (.cells #[.string s, .int .i64 y, .int .i64 z] 174)).cell? ⟨wr.heap.size, 2, none⟩ = some (.int .i64 z) := by rw [World.cell?_alloc_new]; rfl
     go_region_held3 (fun wx => wx.cell? ⟨wr.heap.size, 1, none⟩ = some (.int .i64 y) ∧ wx.cell? ⟨wr.heap.size, 2, none⟩ = some (.int .i64 z)) (first | with_reducible exact k4 | with_reducible exact k5 | with_reducible exact k6 | with_reducible exact k7 | go_keep)
      (first
       | (go_at_call 31; rw [hu1.out]; refine (zqn hV hlt1 _).mono ?_; rintro e w3 ⟨rfl, hb3⟩; have hb4 : Below (wr.alloc (.cells #[.string s, .int .i64 y, .int .i64 z] 174)).heap.size (wr.alloc (.cells #[.string s, .int .i64 y, .int .i64 z] 174)) w3 := (Below.refl _ _).drew.trans hb3; have k4 : w3.cell? ⟨wr.heap.size, 1, none⟩ = some (.int .i64 y) ∧ w3.cell? ⟨wr.heap.size, 2, none⟩ = some (.int .i64 z) := ⟨(hb4.cell (cell_lt k0)).trans k0, (hb4.cell (cell_lt k1)).trans k1⟩)
       | (go_at_call 31; rw [hu2.out]; refine (zqn hU hlt2 _).mono ?_; rintro e w4 ⟨rfl, hb5⟩; have hb6 := hb4.trans (hb5.mono hb4.size); have k5 : w4.cell? ⟨wr.heap.size, 1, none⟩ = some (.int .i64 y) ∧ w4.cell? ⟨wr.heap.size, 2, none⟩ = some (.int .i64 z) := ⟨(hb6.cell (cell_lt k0)).trans k0, (hb6.cell (cell_lt k1)).trans k1⟩; have hTW := ownsRow_below (hT.alloc _) hb6 (by simp; omega); have hbW := hbel.trans (((zaa wr _).trans (hb6.mono (by simp))).mono hB); have hsW := hbW.size; have k6 : (w4.alloc (.cells #[.string V, .string U] 9)).cell? ⟨wr.heap.size, 1, none⟩ = some (.int .i64 y) ∧ (w4.alloc (.cells #[.string V, .string U] 9)).cell? ⟨wr.heap.size, 2, none⟩ = some (.int .i64 z) := ⟨(World.cell?_alloc_lt w4 _ ⟨wr.heap.size, 1, none⟩ (cell_lt k5.1)).trans k5.1, (World.cell?_alloc_lt w4 _ ⟨wr.heap.size, 2, none⟩ (cell_lt k5.2)).trans k5.2⟩)
       | (refine zhf rfl (.tmp 34) (.tmp 47) 116 rfl w2.heap.size 9 i0 (.string ⟨#[]⟩) 1 16 Tryz.underlying116 hi hz0 hz1 hz2 rfl (by decide) u5 L.length (L.map Value.string) rfl (hTW.alloc _) ⟨w4.heap.size, 0, none⟩ 2 2 [.string V, .string U] rfl rfl (zpl _ _ _ _) (by intro u hu; simp at hu; rcases hu with rfl | rfl <;> rfl) (by unfold maxLen; omega) (by omega) (by simp; omega) ?_; intro v1 wE hT2 hg2; have hbE := (zaj (hbW.alloc hsW _) hg2 (by simp; omega) (hTW.alloc _)); have hT3 := zoy rfl hT2; have k7 : wE.cell? ⟨wr.heap.size, 1, none⟩ = some (.int .i64 y) ∧ wE.cell? ⟨wr.heap.size, 2, none⟩ = some (.int .i64 z) := ⟨hg2.cell k6.1 (fun e => absurd (hT.lt _ e.symm).2 (Nat.lt_irrefl _)), hg2.cell k6.2 (fun e => absurd (hT.lt _ e.symm).2 (Nat.lt_irrefl _))⟩))
     all_goals
      clear e1 e2 e3;go_wp2;go_roundw
      case rel => exact ⟨k + 1, q + z, by omega, by go_num, Q5.out, by omega, Lib.hid (by rw [hsb.out, htb2.out]; simp only [List.length_append]; have := zae hlt1; have := zae hlt2; have := HBL.out; omega), by rw [hsf.out, htp.out, ← hV.out, ← hU.out]; exact hT3, Lib.hid (by rw [hsf.out, htp.out, List.length_append]; simp only [List.length_cons, List.length_nil]; omega), hbE⟩
      case measure => simp [intOf]; omega
    ·obtain ⟨q0, q1, q2, q3⟩ := zrd hto hx h1;simp only at q0 q1 q2 q3;subst q0 q1;have htb := Lib.hid (zoc (t := (s, 0, 0)) h1);have htp := Lib.hid (show zli (s, 0, 0) = [strOf (vput (2 * s.size)), s] by unfold zli; rw [if_pos h1]);have Q3 := Lib.hid q3;have X := Lib.hid hx;have hlt64 : 2 * s.size < 18446744073709551616 := by omega
     have e1 : IntKind.i64.wrap (2 * (s.size : Int)) = ((2 * s.size : Nat) : Int) := by rw [IntWalk.i64_in _ (by omega)]; omega
     obtain ⟨V, hV⟩ : ∃ V, Hid (V = strOf (vput (2 * s.size))) := ⟨_, Lib.hid rfl⟩;have HBL := Lib.hid hbl.out;clear hto hx hf q3 hpl hbl;go_wp2;have k0 : (wr.alloc (.cells #[.string s, .int .i64 0, .int .i64 0] 174)).cell? ⟨wr.heap.size, 0, none⟩ = some (.string s) := by rw [World.cell?_alloc_new]; rfl
     have hu64 := Lib.hid (show IntKind.u64.wrap (2 * (s.size : Int)) = ((2 * s.size : Nat) : Int) by rw [IntKind.wrap_u64]; omega);go_region_held3 (fun wx => wx.cell? ⟨wr.heap.size, 0, none⟩ = some (.string s)) (first | go_keep | exact k4 | exact k5 | exact k6)
      (first
       | (go_at_call 31; rw [hu64.out]; refine (zqn hV hlt64 _).mono ?_; rintro e w3 ⟨rfl, hb3⟩; have hb4 : Below (wr.alloc (.cells #[.string s, .int .i64 0, .int .i64 0] 174)).heap.size (wr.alloc (.cells #[.string s, .int .i64 0, .int .i64 0] 174)) w3 := (Below.refl _ _).drew.trans hb3; have k4 := (hb4.cell (cell_lt k0)).trans k0; have hTW := ownsRow_below (hT.alloc _) hb4 (by simp; omega); have hbW := hbel.trans (((zaa wr _).trans (hb4.mono (by simp))).mono hB); have hsW := hbW.size; have k5 := (World.cell?_alloc_lt w3 (.cells #[.string V, .string s] 9) ⟨wr.heap.size, 0, none⟩ (cell_lt k4)).trans k4)
       | (refine zhf rfl (.tmp 23) (.tmp 32) 116 rfl w2.heap.size 9 i0 (.string ⟨#[]⟩) 1 16 Tryz.underlying116 hi hz0 hz1 hz2 rfl (by decide) u5 L.length (L.map Value.string) rfl (hTW.alloc _) ⟨w3.heap.size, 0, none⟩ 2 2 [.string V, .string s] rfl rfl (zpl _ _ _ _) (by intro u hu; simp at hu; rcases hu with rfl | rfl <;> rfl) (by unfold maxLen; omega) (by omega) (by simp; omega) ?_; intro v1 wE hT2 hg2; have hbE := (zaj (hbW.alloc hsW _) hg2 (by simp; omega) (hTW.alloc _)); have hT3 := zoy rfl hT2; have k6 := hg2.cell k5 (fun e => absurd (hT.lt _ e.symm).2 (Nat.lt_irrefl _))))
     clear e1;go_wp2;go_roundw
     case rel => exact ⟨k + 1, q + s.size, by omega, by go_num, Q3.out, by omega, Lib.hid (by rw [hsb.out, htb.out]; simp only [List.length_append, zjq]; have := zae hlt64; have := HBL.out; omega), by rw [hsf.out, htp.out, ← hV.out]; exact hT3, Lib.hid (by rw [hsf.out, htp.out, List.length_append]; simp only [List.length_cons, List.length_nil]; omega), hbE⟩
     case measure => simp [intOf]; omega
   ·obtain rfl : k = n := by omega
    have hend := Lib.hid (show zef l k = l.flatMap zfs by unfold zef; rw [List.take_of_length_le (by rw [hlen.out]; exact Nat.le_refl _)]);have hbl2 := hbl.out;have hjn := Lib.hid (show Lib.join ((zgc l k).map (·.data.toList)) (⟨#[]⟩ : ByteArray).data.toList = zef l k by rw [show (⟨#[]⟩ : ByteArray).data.toList = [] from rfl, ydx]; exact zro l k);have hs0 := hT;obtain ⟨L, hL⟩ : ∃ L, L = zgc l k := ⟨_, rfl⟩;rw [← hL] at hT hpl2;have HL := Lib.hid hL;clear hL hs0 hlt;obtain ⟨A1, cp, rfl⟩ := zah hT;have hjoin : ∀ wx : World, wx = wr → Calls Tryz.prog 128 #[.slice A1 L.length cp, .string ⟨#[]⟩] wx fun e w' => e = .returned (.string (strOf (zef l k))) ∧ Below wx.heap.size wx w' := by
     rintro wx rfl;rcases Nat.eq_zero_or_pos L.length with h0 | h0
     ·rw [h0];refine (Tryz.strings_Join_none A1 cp ⟨#[]⟩ wx).mono ?_;rintro e w' ⟨rfl, rfl⟩;have hL0 : zgc l k = [] := by rw [← HL.out]; exact List.length_eq_zero_iff.1 h0
      refine ⟨?_, Below.refl _ _⟩;have hj := hjn.out;rw [hL0] at hj;rw [← hj]; rfl
     ·obtain ⟨g, cp2, hv, hg0, hg1⟩ := zjm hT h0;injection hv with hv1 hv2 hv3
      subst hv1;refine (Tryz.strings_Join g 0 cp L ⟨#[]⟩ wx ?_ hg1 (by omega) ?_ ?_).mono ?_
      ·intro j x hx;have hj : j < L.length := (List.getElem?_eq_some_iff.1 hx).1;rw [Nat.zero_add, hT.cellAt j (by omega), List.getElem?_map, hx]; rfl
      ·rcases hT.2 with ⟨h, _⟩ | ⟨g', cap, cur, h, _, _, hc, _⟩
       ·cases h
       ·injection h with _ _ h3; omega
      ·rw [HL.out, hjn.out]; omega
      ·rintro e w' ⟨rfl, hb⟩;exact ⟨by rw [HL.out, hjn.out], hb⟩
    go_wp2_with (go_at_call 128; refine (hjoin _ rfl).mono ?_; rintro e w3 ⟨rfl, hb3⟩);refine (zdy _).mono ?_;rintro e w4 ⟨rfl, hb4⟩;have hb5 := hb3.trans (hb4.mono hb3.size);have hb6 := hbb.trans ((hbel.trans (hb5.mono hB)).mono hbb.size);obtain ⟨c0, c1, f0, f1⟩ := T0.keep (hbel.trans (hb5.mono hB)) hw0;have S := set2 (.int .i64 0) (.int .i64 (-1)) c0 c1;go_wp2;exact bodyPost_ret (v := .tuple #[.string (strOf (zef l k)), .agg #[.int .i64 0, .int .i64 (-1)]]) (by simp [results, Tryz.results93, go_sem, S.1, S.2]) rfl ⟨by rw [hR.out, hend.out]; rfl, zai _ _ hb6 (Nat.le_refl _)⟩
end Go.Proofs.YtkejlnjnoiidnaaGreatDoor
end

section
namespace Go.Proofs.YtkejlnjnoiidnaaGreatDoor.Match
def upto (P : Nat → Bool) : Nat → Nat → Nat
 | 0, n => n
 | f + 1, n => if P n then upto P f (n + 1) else n
theorem yaq (P : Nat → Bool) (f n m : Nat) (h1 : ∀ j, n ≤ j → j < m → P j = true) (hn : n ≤ m) (hm : m ≤ n + f) (h2 : m = n + f ∨ P m = false) : upto P f n = m := by
 induction f generalizing n with
 | zero => simp only [upto]; omega
 | succ f ih =>
  simp only [upto];by_cases hnm : n = m
  ·subst hnm;rcases h2 with h2 | h2
   ·omega
   ·rw [h2]; rfl
  ·rw [h1 n (Nat.le_refl _) (by omega)];exact ih (n + 1) (fun j hj hjm => h1 j (by omega) hjm) (by omega) (by omega) (h2.imp (by omega) id)
theorem ykd (P : Nat → Bool) (f n : Nat) : upto P f n ≤ n + f := by
 induction f generalizing n with
 | zero => simp [upto]
 | succ f ih =>
  simp only [upto];split
  ·have := ih (n + 1); omega
  ·omega
theorem zzx (P : Nat → Bool) (f n : Nat) : ∀ j, n ≤ j → j < upto P f n → P j = true := by
 induction f generalizing n with
 | zero => intro j h1 h2; simp only [upto] at h2; omega
 | succ f ih =>
  intro j h1 h2;simp only [upto] at h2;by_cases hp : P n = true
  ·rw [if_pos hp] at h2;by_cases hj : j = n
   ·subst hj; exact hp
   ·exact ih (n + 1) j (by omega) h2
  ·rw [if_neg hp] at h2; omega
def same (l : List UInt8) (a b j : Nat) : Bool := decide (b + j < l.length) && l.getD (a + j) 0 == l.getD (b + j) 0
def alike (l : List UInt8) (a b : Nat) : Nat := upto (same l a b) 67 0
theorem zpv (l : List UInt8) (a b : Nat) : alike l a b ≤ 67 := by have := ykd (same l a b) 67 0; unfold alike; omega
def Best (A : Nat → Nat) (lo hi far best : Nat) : Prop :=
 (far = 0 ∧ best = 0 ∧ ∀ k, lo < k → k ≤ hi → A k < 4) ∨
 (lo < far ∧ far ≤ hi ∧ A far = best ∧ 4 ≤ best ∧ (∀ k, lo < k → k ≤ hi → A k ≤ best) ∧ ∀ k, lo < k → k < far → A k < best)
theorem Best.start (A : Nat → Nat) (k : Nat) : Best A k k 0 0 := .inl ⟨rfl, rfl, fun j h1 h2 => by omega⟩
theorem Best.uniq {A : Nat → Nat} {lo hi f b f' b' : Nat} (h : Best A lo hi f b) (h' : Best A lo hi f' b') : f = f' ∧ b = b' := by
 rcases h with ⟨h1, h2, h3⟩ | ⟨h1, h2, h3, h4, h5, h6⟩ <;> rcases h' with ⟨g1, g2, g3⟩ | ⟨g1, g2, g3, g4, g5, g6⟩
 ·omega
 ·have := h3 f' g1 g2; omega
 ·have := g3 f h1 h2; omega
 ·have e1 := h5 f' g1 g2;have e2 := g5 f h1 h2;have hb : b = b' := by omega
  refine ⟨?_, hb⟩;rcases Nat.lt_trichotomy f f' with h | h | h
  ·have := g6 f h1 h; omega
  ·exact h
  ·have := h6 f' g1 h; omega
theorem Best.yms {A : Nat → Nat} {lo hi f b : Nat} (h : Best A lo hi f b) (hl : lo ≤ hi) (h4 : 4 ≤ A (hi + 1)) (hb : b < A (hi + 1)) : Best A lo (hi + 1) (hi + 1) (A (hi + 1)) := by
 refine .inr ⟨by omega, Nat.le_refl _, rfl, h4, ?_, ?_⟩
 ·intro k k1 k2;by_cases hk : k = hi + 1
  ·subst hk; exact Nat.le_refl _
  ·rcases h with ⟨_, _, h3⟩ | ⟨_, _, _, _, h5, _⟩
   ·have := h3 k k1 (by omega); omega
   ·have := h5 k k1 (by omega); omega
 ·intro k k1 k2;rcases h with ⟨_, _, h3⟩ | ⟨_, _, _, _, h5, _⟩
  ·have := h3 k k1 (by omega); omega
  ·have := h5 k k1 (by omega); omega
theorem Best.yox {A : Nat → Nat} {lo hi f b : Nat} (h : Best A lo hi f b) (hn : ¬ (4 ≤ A (hi + 1) ∧ b < A (hi + 1))) : Best A lo (hi + 1) f b := by
 rcases h with ⟨h1, h2, h3⟩ | ⟨h1, h2, h3, h4, h5, h6⟩
 ·refine .inl ⟨h1, h2, fun k k1 k2 => ?_⟩;by_cases hk : k = hi + 1
  ·subst hk; omega
  ·exact h3 k k1 (by omega)
 ·refine .inr ⟨h1, by omega, h3, h4, fun k k1 k2 => ?_, h6⟩;by_cases hk : k = hi + 1
  ·subst hk; omega
  ·exact h5 k k1 (by omega)
theorem Best.yig {A : Nat → Nat} {lo hi f b : Nat} (h : Best A (lo + 1) hi f b) (hl : lo < hi) (h4 : 4 ≤ A (lo + 1)) (hb : b ≤ A (lo + 1)) : Best A lo hi (lo + 1) (A (lo + 1)) := by
 refine .inr ⟨by omega, hl, rfl, h4, ?_, fun k k1 k2 => by omega⟩;intro k k1 k2;by_cases hk : k = lo + 1
 ·subst hk; exact Nat.le_refl _
 ·rcases h with ⟨_, _, h3⟩ | ⟨_, _, _, _, h5, _⟩
  ·have := h3 k (by omega) (by omega); omega
  ·have := h5 k (by omega) (by omega); omega
theorem Best.yke {A : Nat → Nat} {lo hi f b : Nat} (h : Best A (lo + 1) hi f b) (_hl : lo < hi) (hn : ¬ (b ≤ A (lo + 1) ∧ 4 ≤ A (lo + 1))) : Best A lo hi f b := by
 rcases h with ⟨h1, h2, h3⟩ | ⟨h1, h2, h3, h4, h5, h6⟩
 ·refine .inl ⟨h1, h2, fun k k1 k2 => ?_⟩;by_cases hk : k = lo + 1
  ·subst hk; omega
  ·exact h3 k (by omega) (by omega)
 ·refine .inr ⟨by omega, h2, h3, h4, fun k k1 k2 => ?_, fun k k1 k2 => ?_⟩
  ·by_cases hk : k = lo + 1
   ·subst hk; omega
   ·exact h5 k (by omega) (by omega)
  ·by_cases hk : k = lo + 1
   ·subst hk; omega
   ·exact h6 k (by omega) (by omega)
def zcv (l : List UInt8) (at_ : Nat) : Nat → Nat × Nat
 | 0 => (0, 0)
 | k + 1 => if 4 ≤ alike l (at_ - (k + 1)) at_ ∧ (zcv l at_ k).2 < alike l (at_ - (k + 1)) at_ then (k + 1, alike l (at_ - (k + 1)) at_) else zcv l at_ k
theorem zvg (l : List UInt8) (at_ k : Nat) : Best (fun k => alike l (at_ - k) at_) 0 k (zcv l at_ k).1 (zcv l at_ k).2 := by
 induction k with
 | zero => exact Best.start _ 0
 | succ k ih =>
  simp only [zcv];split
  ·rename_i h; exact ih.yms (Nat.zero_le _) h.1 h.2
  ·rename_i h; exact ih.yox h
def find (l : List UInt8) (i : Nat) : Nat × Nat := if i < l.length then zcv l i (min i 1024) else (0, 0)
theorem zmv (l : List UInt8) (i k : Nat) : (zcv l i k).1 ≤ k ∧ (zcv l i k).2 ≤ 67 := by
 induction k with
 | zero => exact ⟨Nat.le_refl _, Nat.zero_le _⟩
 | succ k ih =>
  simp only [zcv];split
  ·exact ⟨Nat.le_refl _, zpv _ _ _⟩
  ·exact ⟨by omega, ih.2⟩
end Go.Proofs.YtkejlnjnoiidnaaGreatDoor.Match
end

section
namespace Go.Proofs.YtkejlnjnoiidnaaGreatDoor.Tokens
open Go.RowKit Match
structure St where
 at_ : Nat
 own : Nat
 done : List Tok
def flush (s : ByteArray) (x : St) : List Tok := if x.own < x.at_ then x.done ++ [(s.extract x.own x.at_, 0, 0)] else x.done
def step (s : ByteArray) (x : St) : St :=
 if x.at_ < s.size then
  if (find s.data.toList x.at_).2 = 0 then { x with at_ := x.at_ + 1 }
  else { at_ := x.at_ + (find s.data.toList x.at_).2, own := x.at_ + (find s.data.toList x.at_).2, done := flush s x ++ [(ByteArray.empty, ((find s.data.toList x.at_).1 : Int), ((find s.data.toList x.at_).2 : Int))] }
 else x
def st (s : ByteArray) : Nat → St
 | 0 => ⟨0, 0, []⟩
 | k + 1 => step s (st s k)
def tokens (s : ByteArray) : List Tok := flush s (st s s.size)
theorem yci (l : List UInt8) (a b : Nat) (hb : b ≤ l.length) : b + alike l a b ≤ l.length := by
 rcases Nat.eq_zero_or_pos (alike l a b) with h | h
 ·omega
 ·have := zzx (same l a b) 67 0 (alike l a b - 1) (Nat.zero_le _) (by unfold alike at h ⊢; omega);unfold same at this;simp at this;omega
theorem zzz (l : List UInt8) (i k : Nat) (hi : i ≤ l.length) : i + (zcv l i k).2 ≤ l.length := by
 induction k with
 | zero => exact hi
 | succ k ih =>
  simp only [zcv];split
  ·exact yci l _ i hi
  ·exact ih
theorem zlu (l : List UInt8) (i : Nat) (hi : i ≤ l.length) : i + (find l i).2 ≤ l.length := by
 unfold find;split
 ·exact zzz l i _ hi
 ·exact hi
theorem zqq (l : List UInt8) (i : Nat) : (find l i).1 ≤ 1024 ∧ (find l i).2 ≤ 67 := by
 unfold find;split
 ·have := zmv l i (min i 1024); omega
 ·simp
theorem zms (s : ByteArray) (x : St) (h : x.done.length ≤ x.own) (ho : x.own ≤ x.at_) : (flush s x).length ≤ x.at_ := by
 unfold flush;split
 ·simp; omega
 ·omega
theorem ztc (s : ByteArray) (k : Nat) : (st s k).own ≤ (st s k).at_ ∧ (st s k).at_ ≤ s.size ∧ (st s k).done.length ≤ (st s k).own ∧ (k ≤ (st s k).at_ ∨ (st s k).at_ = s.size) := by
 induction k with
 | zero => exact ⟨Nat.le_refl _, Nat.zero_le _, Nat.le_refl _, .inl (Nat.le_refl _)⟩
 | succ k ih =>
  obtain ⟨h1, h2, h3, h4⟩ := ih;have e : st s (k + 1) = step s (st s k) := rfl;rw [e];clear e;generalize st s k = x at *;unfold step;by_cases hlt : x.at_ < s.size
  ·rw [if_pos hlt];by_cases hz : (find s.data.toList x.at_).2 = 0
   ·rw [if_pos hz];exact ⟨by simp; omega, by simp; omega, h3, by simp; omega⟩
   ·rw [if_neg hz];have he := zlu s.data.toList x.at_ (by simpa using h2);have hf := zms s x h3 h1;refine ⟨Nat.le_refl _, by simpa using he, by simp; omega, ?_⟩;simp only;omega
  ·rw [if_neg hlt];exact ⟨h1, h2, h3, by omega⟩
theorem yjh (s : ByteArray) (k j : Nat) (h : s.size ≤ (st s k).at_) : st s (k + j) = st s k := by
 induction j with
 | zero => rfl
 | succ j ih =>
  show step s (st s (k + j)) = st s k;rw [ih];unfold step;rw [if_neg (by omega)]
theorem yjc (s : ByteArray) (k : Nat) (h : s.size ≤ (st s k).at_) : flush s (st s k) = tokens s := by
 unfold tokens;have h2 := (ztc s s.size).2.2.2;have h3 := (ztc s s.size).2.1;have hz : s.size ≤ (st s s.size).at_ := by omega
 rcases Nat.le_total k s.size with hk | hk
 ·have := yjh s k (s.size - k) h;rw [Nat.add_sub_cancel' hk] at this;rw [this]
 ·have := yjh s s.size (k - s.size) hz;rw [Nat.add_sub_cancel' hk] at this;rw [this]
theorem step_none (s : ByteArray) (x : St) (h : x.at_ < s.size) (hz : (find s.data.toList x.at_).2 = 0) : step s x = ⟨x.at_ + 1, x.own, x.done⟩ := by unfold step; rw [if_pos h, if_pos hz]
theorem step_some (s : ByteArray) (x : St) (h : x.at_ < s.size) (hz : (find s.data.toList x.at_).2 ≠ 0) :
  step s x = ⟨x.at_ + (find s.data.toList x.at_).2, x.at_ + (find s.data.toList x.at_).2, flush s x ++ [(ByteArray.empty, ((find s.data.toList x.at_).1 : Int), ((find s.data.toList x.at_).2 : Int))]⟩ := by unfold step; rw [if_pos h, if_neg hz]
theorem zjk (s : ByteArray) (x : St) (h : x.own < x.at_) : flush s x = x.done ++ [(s.extract x.own x.at_, 0, 0)] := by unfold flush; rw [if_pos h]
theorem zlo (s : ByteArray) (x : St) (h : ¬ x.own < x.at_) : flush s x = x.done := by unfold flush; rw [if_neg h]
theorem zok (s : ByteArray) : (tokens s).length ≤ s.size := by
 have := ztc s s.size;have h := zms s (st s s.size) this.2.2.1 this.1;unfold tokens;omega
theorem st_succ (s : ByteArray) (k : Nat) : st s (k + 1) = step s (st s k) := rfl
end Go.Proofs.YtkejlnjnoiidnaaGreatDoor.Tokens
end

section
namespace Go.Proofs.YtkejlnjnoiidnaaGreatDoor.Match
open Go.RowKit
theorem valI {k : IntKind} {a b : Int} (h : a = b) : Value.int k a = .int k b := by rw [h]
theorem ynj (s : ByteArray) (a b : Nat) (ha : a < s.size) (hb : b < s.size) : (s.data.toList.getD a 0 == s.data.toList.getD b 0) = (((s[a].toNat : Int)) == ((s[b].toNat : Int))) := by
 have e : ∀ k (h : k < s.size), s.data.toList.getD k 0 = s[k] := fun k h => by
  have h' : k < s.data.toList.length := by simpa using h
  simp only [List.getD, List.getElem?_eq_getElem h', Option.getD_some];rfl
 rw [e a ha, e b hb, Bool.eq_iff_iff];simp only [beq_iff_eq];constructor
 ·rintro h; rw [h]
 ·intro h; exact UInt8.toNat_inj.1 (by omega)
theorem same_eq (s : ByteArray) (x y n : Nat) (h : y + n < s.size) (hx : x + n < s.size) : same s.data.toList x y n = (((s[x + n].toNat : Int)) == ((s[y + n].toNat : Int))) := by
 unfold same;rw [ynj s _ _ hx h, decide_eq_true (by simpa using h), Bool.true_and]
theorem zyi (s : ByteArray) (x y n : Nat) (h : ¬ y + n < s.size) : same s.data.toList x y n = false := by
 unfold same;rw [decide_eq_false (by simpa using h), Bool.false_and]
theorem zyg {l : List UInt8} {x y n : Nat} (h : ∀ j, j < n → same l x y j = true) (hn : same l x y n = true) : ∀ j, j < n + 1 → same l x y j = true := by
 intro j hj;by_cases e : j = n
 ·subst e; exact hn
 ·exact h j (by omega)
theorem znj (l : List UInt8) (x y n : Nat) (hn : n ≤ 67) (h : ∀ j, j < n → same l x y j = true) (h2 : n = 67 ∨ same l x y n = false) :
  Ending.returned (.int .i64 (n : Int)) = .returned (.int .i64 (alike l ((x : Int)).toNat ((y : Int)).toNat : Int)) := by
 rw [Int.toNat_natCast, Int.toNat_natCast];have e : alike l x y = n := yaq _ 67 0 n (fun j _ hj => h j hj) (Nat.zero_le _) (by omega) (h2.imp (by omega) id);rw [e]
theorem alike_any (s : ByteArray) (a b : Int) (w : World) (hs : s.size ≤ 1000000000) (ha : 0 ≤ a) (hab : a ≤ b) (hb : b < s.size) :
  Calls Tryz.prog 149 #[.string s, .int .i64 a, .int .i64 b, .int .i64 67] w fun e w' => e = .returned (.int .i64 (alike s.data.toList a.toNat b.toNat)) ∧ ∃ q, w' = w.drewN q := by
 obtain ⟨x, rfl⟩ := Int.eq_ofNat_of_zero_le ha;obtain ⟨y, rfl⟩ := Int.eq_ofNat_of_zero_le (Int.le_trans ha hab);go_enter Tryz.func149, Tryz.ntmps149;go_wp2;go_loopw [9] (fun v wr => (∃ n : Nat, n ≤ 67 ∧ v = .int .i64 n ∧ ∀ j, j < n → same s.data.toList x y j = true) ∧ ∃ q, wr = w.drewN q) (fun v _ => 67 - (intOf v).toNat)
 case atStart => exact ⟨⟨0, by omega, rfl, fun j hj => by omega⟩, 0, rfl⟩
 case round =>
  obtain ⟨⟨n, hn, rfl, hall⟩, q, rfl⟩ := hrel;have Hall := Lib.hid hall;clear hall;by_cases h1 : n < 67
  ·have d1 : decide ((n : Int) < 67) = true := by simp; omega
   by_cases h2 : y + n < s.size
   ·have hx : x + n < s.size := by omega
    have d2 : decide ((y : Int) + (n : Int) < (s.size : Int)) = true := by simp; omega
    have Hs := Lib.hid (same_eq s x y n h2 hx);have u1 : (0 : Int) ≤ (x : Int) + (n : Int) := by omega
    have u2 : (0 : Int) ≤ (y : Int) + (n : Int) := by omega
    have u3 : (x : Int) + (n : Int) < (s.size : Int) := by omega
    have u4 : (y : Int) + (n : Int) < (s.size : Int) := by omega
    have t1 : ((x : Int) + (n : Int)).toNat = x + n := by omega
    have t2 : ((y : Int) + (n : Int)).toNat = y + n := by omega
    have e1 : IntKind.i64.wrap ((y : Int) + (n : Int)) = (y : Int) + (n : Int) := IntWalk.i64_in _ (by omega);have e2 : IntKind.i64.wrap ((x : Int) + (n : Int)) = (x : Int) + (n : Int) := IntWalk.i64_in _ (by omega);by_cases h3 : ((s[x + n].toNat : Int) == (s[y + n].toNat : Int)) = true
    ·go_wp2_with fail;go_quiet (fail)
     go_wp2;go_roundw
     case rel => exact ⟨⟨n + 1, by omega, by go_num, zyg Hall.out (Hs.out.trans h3)⟩, q + nq, by first | rfl | rw [World.drewN_drewN]⟩
     case measure => simp [intOf]; omega
    ·have h4 := Bool.eq_false_iff.2 h3;clear h3;go_wp2_with fail;go_quiet (fail)
     go_wp2;go_ret;exact ⟨znj _ _ _ n hn Hall.out (.inr (Hs.out.trans h4)), q + nq, by first | rfl | rw [World.drewN_drewN]⟩
   ·have e1 : IntKind.i64.wrap ((y : Int) + (n : Int)) = (y : Int) + (n : Int) := IntWalk.i64_in _ (by omega);have d2 : decide ((y : Int) + (n : Int) < (s.size : Int)) = false := by simp; omega
    have Hs := Lib.hid (zyi s x y n h2);go_wp2_with fail;go_quiet (fail)
    go_wp2;go_ret;exact ⟨znj _ _ _ n hn Hall.out (.inr Hs.out), q + nq, by first | rfl | rw [World.drewN_drewN]⟩
  ·have d1 : decide ((n : Int) < 67) = false := by simp; omega
   go_wp2_with fail;go_quiet (fail)
   go_wp2;go_ret;exact ⟨znj _ _ _ n hn Hall.out (.inl (by omega)), q + nq, by first | rfl | rw [World.drewN_drewN]⟩
def yee (l : List UInt8) (p : Int) (w : World) (e : Ending) (w' : World) : Prop :=
 e = .returned (.tuple #[.int .i64 ((find l p.toNat).1 : Nat), .int .i64 ((find l p.toNat).2 : Nat)]) ∧ ∃ q, w' = w.drewN q
theorem yjl (i : Nat) : (if (1024 : Int) < (i : Int) then (1024 : Int) else (i : Int)) = ((min i 1024 : Nat) : Int) := by
 split <;> omega
theorem zpd (l : List UInt8) (i : Nat) (h : i < l.length) : find l i = zcv l i (min i 1024) := by unfold find; rw [if_pos h]
theorem ymx (l : List UInt8) (i n : Nat) (h1 : 1 ≤ n) (g4 : 4 ≤ alike l (i - n) i) (gb : (zcv l i (n - 1)).2 < alike l (i - n) i) : zcv l i n = (n, alike l (i - n) i) := by
 obtain ⟨k, rfl⟩ : ∃ k, n = k + 1 := ⟨n - 1, by omega⟩;simp only [Nat.add_sub_cancel] at gb;simp only [zcv];rw [if_pos ⟨g4, gb⟩]
theorem ynu (l : List UInt8) (i n : Nat) (h1 : 1 ≤ n) (g : ¬ (4 ≤ alike l (i - n) i ∧ (zcv l i (n - 1)).2 < alike l (i - n) i)) : zcv l i n = zcv l i (n - 1) := by
 obtain ⟨k, rfl⟩ : ∃ k, n = k + 1 := ⟨n - 1, by omega⟩;simp only [Nat.add_sub_cancel] at g;simp only [zcv, Nat.add_sub_cancel];rw [if_neg g]
theorem ylj (s : ByteArray) (i : Nat) (w : World) (hs : s.size ≤ 1000000000) (hi : i < s.size) :
  Calls Tryz.prog 131 #[.string s, .int .i64 (i : Int)] w fun e w' => yee s.data.toList (i : Int) w e w' := by
 have hf := Lib.hid (zpd s.data.toList i (by simpa using hi));obtain ⟨m, hm⟩ : ∃ m, m = min i 1024 := ⟨_, rfl⟩;have hM := Lib.hid hm;have hmi : m ≤ i := by omega
 have hm4 : m ≤ 1024 := by omega
 have b0 : decide ((i : Int) < 0) = false := by simp
 have b1 : decide (s.size ≤ i) = false := by simp; omega
 have hmin := yjl i;rw [← hm] at hmin;clear hm;go_enter Tryz.func131, Tryz.ntmps131;go_wp2;go_loopw [4, 5, 6] (fun f b k wr => (∃ n : Nat, 1 ≤ n ∧ n ≤ m + 1 ∧ k = .int .i64 n ∧ f = .int .i64 (zcv s.data.toList i (n - 1)).1 ∧ b = .int .i64 (zcv s.data.toList i (n - 1)).2) ∧ ∃ q, wr = w.drewN q) (fun _ _ k _ => 1026 - (intOf k).toNat)
 case atStart => exact ⟨⟨1, by omega, by omega, rfl, rfl, rfl⟩, 0, rfl⟩
 case round =>
  obtain ⟨⟨n, hn1, hn, rfl, rfl, rfl⟩, q, rfl⟩ := hrel;have hle := zmv s.data.toList i (n - 1);by_cases hlt : n ≤ m
  ·go_wp2_with fail;refine (alike_any s _ _ _ hs (by omega) (by omega) (by omega)).mono ?_;rintro e w' ⟨rfl, q', rfl⟩;have t1 : ((i : Int) - (n : Int)).toNat = i - n := by omega
   rw [t1, Int.toNat_natCast];clear t1;have hal := zpv s.data.toList (i - n) i;by_cases g4 : 4 ≤ alike s.data.toList (i - n) i
   ·by_cases gb : (zcv s.data.toList i (n - 1)).2 < alike s.data.toList (i - n) i
    ·have hy := Lib.hid (ymx s.data.toList i n hn1 g4 gb);go_wp2;go_roundw
     case rel => exact ⟨⟨n + 1, by omega, by omega, by go_num, by rw [Nat.add_sub_cancel, hy.out], by rw [Nat.add_sub_cancel, hy.out]⟩, q + q', by first | rfl | rw [World.drewN_drewN]⟩
     case measure => simp [intOf]; omega
    ·have hy := Lib.hid (ynu s.data.toList i n hn1 (fun h => gb h.2));go_wp2;go_roundw
     case rel => exact ⟨⟨n + 1, by omega, by omega, by go_num, by rw [Nat.add_sub_cancel, hy.out], by rw [Nat.add_sub_cancel, hy.out]⟩, q + q', by first | rfl | rw [World.drewN_drewN]⟩
     case measure => simp [intOf]; omega
   ·have hy := Lib.hid (ynu s.data.toList i n hn1 (fun h => g4 h.1));go_wp2;go_roundw
    case rel => exact ⟨⟨n + 1, by omega, by omega, by go_num, by rw [Nat.add_sub_cancel, hy.out], by rw [Nat.add_sub_cancel, hy.out]⟩, q + q', by first | rfl | rw [World.drewN_drewN]⟩
    case measure => simp [intOf]; omega
  ·obtain rfl : n = m + 1 := by omega
   go_wp2_with fail;go_ret2;refine ⟨?_, q, rfl⟩;rw [Int.toNat_natCast, hf.out, ← hM.out];rfl
end Go.Proofs.YtkejlnjnoiidnaaGreatDoor.Match
end

section
namespace Go.Proofs.YtkejlnjnoiidnaaGreatDoor.Match
open Go.RowKit
theorem zfd (n a b : Int) (w : World) :
  Calls Tryz.prog 54 #[.int .i64 n, .int .i64 a, .int .i64 b] w fun e w' => e = .returned (.bool (decide (a ≤ n) && decide (n ≤ b))) ∧ w = w' := by
 go_enter Tryz.func54, Tryz.ntmps54;go_wp2
 ·go_ret;have h : a ≤ n := by omega
  exact ⟨by rw [decide_eq_true h, Bool.true_and]; rfl, rfl⟩
 ·go_ret;have h : ¬ a ≤ n := by omega
  exact ⟨by rw [decide_eq_false h, Bool.false_and]; rfl, rfl⟩
theorem yom {A : Nat → Nat} {n hi f b : Nat} (h1 : 1 ≤ n) (hn : n ≤ hi) (h : Best A n hi f b) (g1 : b ≤ A n) (g4 : 4 ≤ A n) : Best A (n - 1) hi n (A n) := by
 obtain ⟨k, rfl⟩ : ∃ k, n = k + 1 := ⟨n - 1, by omega⟩;exact h.yig hn g4 g1
theorem ynd {A : Nat → Nat} {n hi f b : Nat} (h1 : 1 ≤ n) (hn : n ≤ hi) (h : Best A n hi f b) (g : ¬ (b ≤ A n ∧ 4 ≤ A n)) : Best A (n - 1) hi f b := by
 obtain ⟨k, rfl⟩ : ∃ k, n = k + 1 := ⟨n - 1, by omega⟩;exact h.yke hn g
theorem numN {k : IntKind} {n : Nat} (h : 1 ≤ n) : Value.int k ((n : Int) - 1) = .int k ((n - 1 : Nat) : Int) := valI (by omega)
theorem zmc (l : List UInt8) (x y n : Nat) (hn : n ≤ 67) (h : ∀ j, j < n → same l x y j = true) (h2 : n = 67 ∨ same l x y n = false) :
  Value.int .i64 (n : Int) = .int .i64 ((alike l x y : Nat) : Int) := by
 have e : alike l x y = n := yaq _ 67 0 n (fun j _ hj => h j hj) (Nat.zero_le _) (by omega) (h2.imp (by omega) id);rw [e]
theorem ylx (a b : Int) : (a == b) = (b == a) := by rw [Bool.eq_iff_iff]; simp only [beq_iff_eq]; exact ⟨Eq.symm, Eq.symm⟩
theorem yfn (s : ByteArray) (i : Nat) (w : World) (hs : s.size ≤ 1000000000) (hi : i < s.size) :
  Calls Tryz.prog 129 #[.string s, .int .i64 (i : Int)] w fun e w' => yee s.data.toList (i : Int) w e w' := by
 have hf := Lib.hid (zpd s.data.toList i (by simpa using hi));have hc : (decide (0 ≤ (i : Int)) && decide ((i : Int) ≤ (s.size : Int) - 1)) = true := by
  rw [decide_eq_true (by omega), decide_eq_true (by omega)]; rfl
 obtain ⟨m, hm⟩ : ∃ m, m = min i 1024 := ⟨_, rfl⟩;have hM := Lib.hid hm;have hmi : m ≤ i := by omega
 have hm4 : m ≤ 1024 := by omega
 have hmin := yjl i;have hmin2 : min (i : Int) 1024 = ((min i 1024 : Nat) : Int) := by omega
 rw [← hm] at hmin hmin2;clear hm;go_enter Tryz.func129, Tryz.ntmps129;go_wp2_with fail;refine (zfd _ _ _ _).mono ?_;rintro e w' ⟨rfl, rfl⟩;rw [hc];clear hc;go_wp2;go_loopw [6, 7, 8, 9] (fun b f k _ wr => (∃ n best far : Nat, n ≤ m ∧ k = .int .i64 n ∧ f = .int .i64 far ∧ b = .int .i64 best ∧ best ≤ 67 ∧ Best (fun k => alike s.data.toList (i - k) i) n m far best) ∧ ∃ q, wr = w.drewN q) (fun _ _ k _ _ => (intOf k).toNat)
 case atStart => exact ⟨⟨m, 0, 0, Nat.le_refl _, rfl, rfl, rfl, by omega, Best.start _ _⟩, 0, rfl⟩
 case round =>
  obtain ⟨⟨n, best, far, hn, rfl, rfl, rfl, hb67, hb⟩, q, rfl⟩ := hrel;have Hb := Lib.hid hb;clear hb;by_cases hlt : 1 ≤ n
  ·have dn : decide (1 ≤ n) = true := by simp; omega
   go_upto_block 2 with fail
   go_cut [9] (fun v wx => v = .int .i64 (alike s.data.toList (i - n) i : Nat) ∧ ∃ q', wx = w.drewN q')
   case first =>
    go_wp2_with fail;go_loopw [9] (fun v wr => (∃ j : Nat, j ≤ 67 ∧ v = .int .i64 j ∧ ∀ k, k < j → same s.data.toList (i - n) i k = true) ∧ ∃ q, wr = w.drewN q) (fun v _ => 67 - (intOf v).toNat)
    case atStart => exact ⟨⟨0, by omega, rfl, fun j hj => by omega⟩, q, rfl⟩
    case round =>
     obtain ⟨⟨j, hj, rfl, hall⟩, q', rfl⟩ := hrel;have Hall := Lib.hid hall;clear hall;by_cases h1 : j < 67
     ·have d1 : decide ((j : Int) < 67) = true := by simp; omega
      by_cases h2 : i + j < s.size
      ·have hx : i - n + j < s.size := by omega
       have d2 : decide ((i : Int) + (j : Int) < (s.size : Int)) = true := by simp; omega
       have Hs := Lib.hid ((same_eq s (i - n) i j h2 hx).trans (ylx _ _));have u1 : (0 : Int) ≤ (i : Int) + (j : Int) - (n : Int) := by omega
       have u2 : (0 : Int) ≤ (i : Int) + (j : Int) := by omega
       have u3 : (i : Int) + (j : Int) - (n : Int) < (s.size : Int) := by omega
       have u4 : (i : Int) + (j : Int) < (s.size : Int) := by omega
       have u5 : (n : Int) ≤ (i : Int) + (j : Int) := by omega
       have u6 : n ≤ i + j := by omega
       have u7 : (i : Int) + (j : Int) < (s.size : Int) + (n : Int) := by omega
       have t1 : ((i : Int) + (j : Int) - (n : Int)).toNat = i - n + j := by omega
       have t2 : ((i : Int) + (j : Int)).toNat = i + j := by omega
       have e2 : IntKind.i64.wrap ((i : Int) + (j : Int) - (n : Int)) = (i : Int) + (j : Int) - (n : Int) := IntWalk.i64_in _ (by omega);have e1 : IntKind.i64.wrap ((i : Int) + (j : Int)) = (i : Int) + (j : Int) := IntWalk.i64_in _ (by omega);by_cases h3 : ((s[i + j].toNat : Int) == (s[i - n + j].toNat : Int)) = true
       ·go_wp2_with fail;go_quiet (fail)
        go_wp2;go_roundw
        case rel => exact ⟨⟨j + 1, by omega, by go_num, zyg Hall.out (Hs.out.trans h3)⟩, q' + nq, by first | rfl | rw [World.drewN_drewN]⟩
        case measure => simp [intOf]; omega
       ·have h4 := Bool.eq_false_iff.2 h3;clear h3;go_wp2_with fail;go_quiet (fail)
        go_wp2;go_meet;exact ⟨zmc _ _ _ j hj Hall.out (.inr (Hs.out.trans h4)), q' + nq, by first | rfl | rw [World.drewN_drewN]⟩
      ·have e1 : IntKind.i64.wrap ((i : Int) + (j : Int)) = (i : Int) + (j : Int) := IntWalk.i64_in _ (by omega);have d2 : decide ((i : Int) + (j : Int) < (s.size : Int)) = false := by simp; omega
       have Hs := Lib.hid (zyi s (i - n) i j h2);go_wp2_with fail;go_quiet (fail)
       go_wp2;go_meet;exact ⟨zmc _ _ _ j hj Hall.out (.inr Hs.out), q' + nq, by first | rfl | rw [World.drewN_drewN]⟩
     ·have d1 : decide ((j : Int) < 67) = false := by simp; omega
      go_wp2_with fail;go_quiet (fail)
      go_wp2;go_meet;exact ⟨zmc _ _ _ j hj Hall.out (.inl (by omega)), q' + nq, by first | rfl | rw [World.drewN_drewN]⟩
   case rest =>
    obtain ⟨rfl, q', rfl⟩ := hcut;have hal := zpv s.data.toList (i - n) i;by_cases g1 : best ≤ alike s.data.toList (i - n) i
    ·by_cases g4 : 4 ≤ alike s.data.toList (i - n) i
     ·go_wp2;go_roundw
      case rel => exact ⟨⟨n - 1, _, n, by omega, numN hlt, rfl, rfl, hal, yom hlt hn Hb.out g1 g4⟩, q', rfl⟩
      case measure => simp [intOf]; omega
     ·go_wp2;go_roundw
      case rel => exact ⟨⟨n - 1, _, _, by omega, numN hlt, rfl, rfl, hb67, ynd hlt hn Hb.out (fun h => g4 h.2)⟩, q', rfl⟩
      case measure => simp [intOf]; omega
    ·go_wp2;go_roundw
     case rel => exact ⟨⟨n - 1, _, _, by omega, numN hlt, rfl, rfl, hb67, ynd hlt hn Hb.out (fun h => g1 h.1)⟩, q', rfl⟩
     case measure => simp [intOf]; omega
  ·obtain rfl : n = 0 := by omega
   go_wp2_with fail;go_ret2;refine ⟨?_, q, rfl⟩;have hu := Best.uniq Hb.out (zvg s.data.toList i m);rw [Int.toNat_natCast, hf.out, ← hM.out, ← hu.1, ← hu.2];rfl
end Go.Proofs.YtkejlnjnoiidnaaGreatDoor.Match
end
