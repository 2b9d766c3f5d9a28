/- List of the reference says what klist says. -/
import Derived.Test.YtkejlnjnoiidnaaGreatDoorZ14
import Derived.Deep.QuietTactic
import Derived.BigQuiet
import Derived.Test.YtkejlnjnoiidnaaGreatDoorZ8
import Derived.Deep.RegionWith
import Derived.Test.YtkejlnjnoiidnaaGreatDoorZ6
set_option linter.unusedSimpArgs false
set_option linter.unusedVariables false
section
namespace Go.Proofs.YtkejlnjnoiidnaaGreatDoor
open Go.RowKit As Go.Maps
theorem yhy : Keyed Tryz.prog 3 := int_keyed Tryz.underlying3
theorem zuq {T : List ByteArray} {m : Nat} {s s2 : ByteArray} (h : ¬ s ∈ T.take m) (hx : T[m]? = some s2) (hne : s2 ≠ s) : ¬ s ∈ T.take (m + 1) := by
 obtain ⟨h1, h2⟩ := List.getElem?_eq_some_iff.1 hx;rw [List.take_succ_eq_append_getElem h1, h2];simp only [List.mem_append, List.mem_singleton];rintro (h3 | h3)
 ·exact h h3
 ·exact hne h3.symm
theorem ylm {T : List ByteArray} {m k : Nat} {s : ByteArray} (hx : T[m]? = some s) (hm : m < k) : s ∈ T.take k := by
 have : (T.take k)[m]? = some s := by rw [List.getElem?_take_of_lt hm]; exact hx
 exact List.mem_of_getElem? this
set_option maxHeartbeats 4000000 in
set_option maxRecDepth 100000 in
theorem ydu (n c n' c' : Nat) (A A' : Option Addr) (T : List ByteArray) (l : List Int) (w : World) (h : Strs w A n T) (h' : Ints w A' n' l) (hn : n ≤ 1000) (hn' : n' ≤ 1000) (hli : ∀ x ∈ l, -9223372036854775808 ≤ x ∧ x ≤ 9223372036854775807) :
  Calls Tryz.prog 99 #[.slice A n c, .slice A' n' c'] w fun e w' => ∃ v, e = .returned (.tuple #[v, zba (zgn T l).2]) ∧ w'.ownsRow w.heap.size 9 1 v (zgn T l).1.length ((zgn T l).1.map Value.string) ∧ Below w.heap.size w w' := by
 have hmm := @run_makeMap Tryz.prog;obtain ⟨i0, hi, hz0, hz1, hz2⟩ := info_parts zfy;have hT := Lib.hid (zlf Value.string h);have hL := Lib.hid (zlf (Value.int .i64) h');go_enter Tryz.func99, Tryz.ntmps99;go_wp2;go_loopw [6, 7, 14] (fun _ _ i wr => ∃ k : Nat, k ≤ n ∧ i = .int .i64 k ∧ KT T k ∧ Two wr w.heap.size 0 0 ∧ Below w.heap.size w wr) (fun _ _ i _ => n - (intOf i).toNat)
 case atStart => exact ⟨0, by omega, rfl, KT.zero T, Two.new _ _ _ _, zaa _ _⟩
 case round =>
  obtain ⟨k, hk, rfl, hkt, h2, hbel⟩ := hrel;have HK := Lib.hid hkt;clear hkt;have hB := hbel.size;by_cases hlt : k < n
  ·obtain ⟨b, o, s, rfl, hb, hx, hc⟩ := zfj Value.string h hT.out hlt;have hkn : (k : Int) < (n : Int) := by omega
   have hX := Lib.hid hx;clear hx;go_wp2;go_loopw [7, 18] (fun _ j wx => ∃ m : Nat, m ≤ k ∧ j = .int .i64 m ∧ Hid (¬ s ∈ T.take m) ∧ Two wx w.heap.size 0 0 ∧ Below w.heap.size w wx) (fun _ j _ => k - (intOf j).toNat)
   case atStart => exact ⟨0, by omega, rfl, Lib.hid (by simp), h2, hbel⟩
   case round =>
    clear h2 hbel hB;obtain ⟨m, hm, rfl, hni, h2, hbel⟩ := hrel;have hB := hbel.size;have c1 := (hbel.cell (p := ⟨b, o + k, none⟩) hb).trans hc;by_cases hlt2 : m < k
    ·obtain ⟨b', o', s2, e', hb', hx2, hc2⟩ := zfj Value.string h hT.out (k := m) (by omega);injection e' with e'
     injection e' with e1 e2
     subst e1 e2;have c2 := (hbel.cell (p := ⟨b, o + m, none⟩) hb).trans hc2;have hmn : (m : Int) < (n : Int) := by omega
     have hX2 := Lib.hid hx2;clear hx2 hc2;by_cases hss : s2 = s
     ·subst hss;have hres := Lib.hid (znp (a := l) (HK.out.hit hX.out (ylm hX2.out hlt2)));obtain ⟨d0, d1, f0, f1⟩ := h2;go_wp2;go_quiet (fail)
      have S := set2 (w := wr.drewN nq) (.int .i64 9) (.int .i64 (k : Int)) d0 d1;go_wp2;refine bodyPost_ret (v := .tuple #[.slice none 0 0, .agg #[.int .i64 9, .int .i64 (k : Int)]]) (by simp [results, Tryz.results99, go_sem, S.1, S.2]) rfl ⟨.slice none 0 0, by rw [hres.out]; rfl, ?_, zai _ _ (below_drewN hbel _) (Nat.le_refl _)⟩;rw [hres.out]; exact World.ownsRow_nil _ _ _ _
     ·have hne : (s2.toList == s.toList) = false := by have := zdt hss; simpa using this
      have hnx := Lib.hid (zuq hni.out hX2.out hss);have Hss := Lib.hid hss;clear hss;go_wp2;go_quiet (fail)
      go_wp2;go_roundw
      case rel => exact ⟨m + 1, by omega, by go_num, hnx, h2.below (below_drewN (Below.refl _ _) _), below_drewN hbel _⟩
      case measure => simp [intOf]; omega
    ·obtain rfl : m = k := by omega
     have hnext := Lib.hid (HK.out.succ hX.out hni.out);go_wp2;go_roundw
     case rel => exact ⟨m + 1, by omega, by go_num, hnext.out, h2, hbel⟩
     case measure => simp [intOf]; omega
  ·obtain rfl : k = n := by omega
   have honce := HK.out.all (by rw [hT.out]; exact Nat.le_refl _);have hres := Lib.hid (zop (a := l) honce);clear honce hlt HK;have hs0 := h2.lt;have hT2 := Lib.hid h2;go_wp2;obtain ⟨wA, hwA⟩ : ∃ wA, wA = wr := ⟨_, rfl⟩;rw [← hwA] at hs0 hT2 hbel ⊢;clear hwA h2 hB;go_loopw [8, 10, 11, 37] (fun v _ _ i wx => ∃ (j next : Nat) (out : List ByteArray), j ≤ n' ∧ i = .int .i64 j ∧ KA T l j next out ∧ wx.ownsRow wA.heap.size 9 1 v out.length (out.map Value.string) ∧ (∃ D : DataW Unit, wx.ownsMap Tryz.prog 3 (plainElem Tryz.prog 4) wA.heap.size j D ∧ Upto D next) ∧ Below wA.heap.size wA wx) (fun _ _ _ i _ => n' - (intOf i).toNat)
   case atStart => exact ⟨0, 0, [], by omega, rfl, KA.zero T l, World.ownsRow_nil _ _ _ _, ⟨_, World.ownsMap_made _ _ _ _, Upto.nil⟩, zaa _ _⟩
   case round =>
    obtain ⟨j, next, out, hj, rfl, hka, hO, ⟨D, hM, hD⟩, hbx⟩ := hrel;have hB := hbx.size;have hbel2 := hbel.trans (hbx.mono hbel.size);have hB2 := hbel2.size;have hol := hka.len;have hnx := hka.le;have hnx' := hka.le';have hTl := hT.out;rw [hTl] at hnx;have HKA := Lib.hid hka;have HTL := Lib.hid hTl;have HD := Lib.hid hD;have hsz := Lib.hid hD.1;clear hka hTl hD;obtain ⟨d0, d1, f0, f1⟩ := hT2.out.keep hbx hs0;have hs1 : w.heap.size < wr.heap.size := by omega
    by_cases hlt : j < n'
    ·obtain ⟨b, o, x, rfl, hb, hx, hc⟩ := zfj (Value.int .i64) h' hL.out hlt;have hc' := (hbel2.cell (p := ⟨b, o + j, none⟩) hb).trans hc;clear hc;have hxi := hli x (List.mem_of_getElem? hx);have hX := Lib.hid hx;clear hx;by_cases h1 : x < 0 ∨ (k : Int) ≤ x
     ·have hr := Lib.hid (HKA.out.range hX.out (by rw [HTL.out]; exact h1));have B0 := Lib.hid (show inB x 0 ((k : Int) - 1) = false by unfold inB; rw [decide_eq_false]; omega);have S := set2 (.int .i64 2) (.int .i64 (j : Int)) d0 d1;clear h1;go_wp2_with fail;refine (zad B0 _).mono ?_;rintro e w' ⟨rfl, rfl⟩;go_wp2;refine bodyPost_ret (v := .tuple #[.slice none 0 0, .agg #[.int .i64 2, .int .i64 (j : Int)]]) (by simp [results, Tryz.results99, go_sem, S.1, S.2]) rfl ⟨.slice none 0 0, by rw [hres.out, hr.out]; rfl, ?_, zai _ _ hbel2 (Nat.le_refl _)⟩;rw [hres.out, hr.out]; exact World.ownsRow_nil _ _ _ _
     ·have B0 := Lib.hid (show inB x 0 ((k : Int) - 1) = true by unfold inB; rw [decide_eq_true]; omega);by_cases h3 : (next : Int) < x
      ·have hr := Lib.hid (HKA.out.false hX.out (by rw [HTL.out]; exact h1) h3);have e3 : decide ((next : Int) < x) = true := by simpa using h3
       have S := set2 (.int .i64 13) (.int .i64 (j : Int)) d0 d1;clear h1 h3;go_wp2_with fail;refine (zad B0 _).mono ?_;rintro e w' ⟨rfl, rfl⟩;go_wp2_with (at_len; refine wpList_len_own _ rfl _ 179 rfl 3 4 Tryz.underlying179 _ wA.heap.size j D rfl hM ?_; rw [hsz.out]);refine bodyPost_ret (v := .tuple #[.slice none 0 0, .agg #[.int .i64 13, .int .i64 (j : Int)]]) (by simp [results, Tryz.results99, go_sem, S.1, S.2]) rfl ⟨.slice none 0 0, by rw [hres.out, hr.out]; rfl, ?_, zai _ _ hbel2 (Nat.le_refl _)⟩;rw [hres.out, hr.out]; exact World.ownsRow_nil _ _ _ _
      ·obtain ⟨y, rfl⟩ := Int.eq_ofNat_of_zero_le (show 0 ≤ x by omega);have hyk : y < k := by omega
       have e3 : decide (next < y) = false := by simp; omega
       obtain ⟨b2, o2, s2, rfl, hb2, hx2, hc2⟩ := zfj Value.string h hT.out hyk;have hc3 := (hbel2.cell (p := ⟨b2, o2 + y, none⟩) hb2).trans hc2;have hg2 := Lib.hid (show T.getD (y : Int).toNat (strOf []) = s2 by rw [Int.toNat_natCast]; simp [List.getD, hx2]);have hX2 := Lib.hid hx2;have HC2 := Lib.hid ((hbel.cell (p := ⟨b2, o2 + y, none⟩) hb2).trans hc2);have hbA : b2 < wA.heap.size := by have := hbel.size; omega
       clear hc2 hx2;have hkey := keyOf_int_mk Tryz.underlying3 (a := (y : Int)) (q := .i64) (WalkArith.wf_i64 (by omega));have hmO := zmz hO hM;have hrel2 : ∃ next' : Nat, KA T l (j + 1) next' (out ++ [s2]) ∧ Upto (D.put (.int .i64 (y : Int)) (.lit (.bool true))) next' := by
        by_cases h4 : y = next
        ·have hnew := HKA.out.new hX.out (by rw [HTL.out]; exact h1) (by rw [h4]);rw [hg2.out] at hnew;subst h4;exact ⟨_, hnew, HD.out.new⟩
        ·have hold := HKA.out.old hX.out (by rw [HTL.out]; exact h1) (show (y : Int) < (next : Int) by omega);rw [hg2.out] at hold;exact ⟨_, hold, HD.out.old (by omega) (by omega)⟩
       have HREL := Lib.hid hrel2;clear h1 h3 hrel2;go_wp2_with fail;refine (zad B0 _).mono ?_;rintro e w' ⟨rfl, rfl⟩;go_wp2_with (first
        | (at_len; refine wpList_len_own _ rfl _ 179 rfl 3 4 Tryz.underlying179 _ wA.heap.size j D rfl hM ?_; rw [hsz.out])
        | (at_mapUpdate; refine wpList_mapUpdate_own _ rfl _ _ _ 179 rfl 3 4 yhy Tryz.underlying179 _ wA.heap.size j D rfl hM (by unfold maxLen; omega) _ _ _ rfl rfl hkey _ [] (plainElem_bool Tryz.underlying4 true) ?_; intro w1 hM1 hg1; have hb1 := hbx.grown hg1 hB (fun j hj => by cases hj; exact Nat.le_refl _); have hO1 := hO.kept hg1 (.inr hmO.symm); have hc4 := (hb1.cell (p := ⟨b2, o2 + y, none⟩) hbA).trans HC2.out)
        | (at_builtin; refine wpList_append_own _ rfl (.tmp 58) (.tmp 63) 116 rfl wA.heap.size 9 i0 (.string ⟨#[]⟩) 1 16 Tryz.underlying116 hi hz0 hz1 hz2 rfl (by decide) u8 out.length (out.map Value.string) rfl (hO1.alloc _) ⟨w1.heap.size, 0, none⟩ 1 1 [.string s2] rfl rfl (zby _ _ _) (by intro u hu; simp at hu; subst hu; rfl) (by unfold maxLen; omega) (by omega) (by have := hb1.size; simp; omega) ?_; intro v1 w2 hO2 hg3 _; have hb3 := zaj (hb1.alloc hb1.size _) hg3 (by have := hb1.size; simp; omega) (hO1.alloc _); have hO3 := zfi rfl hO2; have hM3 := (hM1.alloc _).kept hg3 (zmz hO1 hM1)))
       obtain ⟨nx, HA1, HU1⟩ := HREL.out;go_roundw
       case rel => exact ⟨j + 1, nx, _, by omega, by go_num, HA1, hO3, ⟨_, hM3, HU1⟩, hb3⟩
       case measure => simp [intOf]; omega
    ·obtain rfl : j = n' := by omega
     by_cases h4 : next < k
     ·have hr := Lib.hid (HKA.out.less (by rw [hL.out]; exact Nat.le_refl _) (by rw [HTL.out]; exact h4));have d4 : decide (next < k) = true := by simpa using h4
      clear h4;go_wp2_with (first
       | (at_len; refine wpList_len_own _ rfl _ 179 rfl 3 4 Tryz.underlying179 _ wA.heap.size j D rfl hM ?_; rw [hsz.out])
       | (go_at_call 47; refine (zbi 8 _).mono ?_; rintro e w3 ⟨rfl, hb3⟩; have hb4 := hbel2.trans (hb3.mono hB2); obtain ⟨c0, c1, g0, g1⟩ := hT2.out.keep (hbx.trans (hb3.mono hB)) hs0))
      have S := set2 (.int .i64 8) (.int .i64 (-1)) c0 c1;go_wp2;refine bodyPost_ret (v := .tuple #[.slice none 0 0, .agg #[.int .i64 8, .int .i64 (-1)]]) (by simp [results, Tryz.results99, go_sem, S.1, S.2]) rfl ⟨.slice none 0 0, by rw [hres.out, hr.out]; rfl, ?_, zai _ _ hb4 (Nat.le_refl _)⟩;rw [hres.out, hr.out]; exact World.ownsRow_nil _ _ _ _
     ·have hr := Lib.hid (HKA.out.done (by rw [hL.out]; exact Nat.le_refl _) (by rw [HTL.out]; exact h4));have d4 : decide (next < k) = false := by simpa using h4
      clear h4;go_wp2_with (first
       | (at_len; refine wpList_len_own _ rfl _ 179 rfl 3 4 Tryz.underlying179 _ wA.heap.size j D rfl hM ?_; rw [hsz.out])
       | (go_at_call 35; refine (zdy _).mono ?_; rintro e w3 ⟨rfl, hb3⟩; have hb4 := hbel2.trans (hb3.mono hB2); obtain ⟨c0, c1, g0, g1⟩ := hT2.out.keep (hbx.trans (hb3.mono hB)) hs0))
      have S := set2 (.int .i64 0) (.int .i64 (-1)) c0 c1;have hO2 := ownsRow_below hO hb3 hB;go_wp2;refine bodyPost_ret (v := .tuple #[u8, .agg #[.int .i64 0, .int .i64 (-1)]]) (by simp [results, Tryz.results99, go_sem, S.1, S.2]) rfl ⟨u8, by rw [hres.out, hr.out]; rfl, ?_, zai _ _ hb4 (Nat.le_refl _)⟩;rw [hres.out, hr.out];exact zei (zab _ (zab _ hO2 hs0) hs0) (by omega)
end Go.Proofs.YtkejlnjnoiidnaaGreatDoor
end

section
namespace Go.Proofs.YtkejlnjnoiidnaaGreatDoor
open Go.RowKit As
def zdk (r : Wr × Nat × Int) : Value := .tuple #[wrV r.1.1 r.1.2.1 r.1.2.2.1 r.1.2.2.2.1 r.1.2.2.2.2.1 r.1.2.2.2.2.2, .int .i64 (r.2.1 : Int), .int .i64 r.2.2]
-- kinds
set_option maxHeartbeats 2000000 in
set_option maxRecDepth 100000 in
theorem yno (a b f : Int) (d e s : ByteArray) (w : World) (hs : s.size ≤ maxLen) :
  Calls Tryz.prog 56 #[wrV a b 1 d e f, .string s] w fun r w' => r = .returned (zdk (zcy (a, b, 1, d, e, f) s)) ∧ Below w.heap.size w w' := by
 have hr := Lib.hid (show zcy (a, b, 1, d, e, f) s = if (zaq s).2.2 ≠ 0 then (noWr, 0, (zaq s).2.2) else wend (a, b, 1, d, (zaq s).1, 0) (zaq s).2.1 from rfl);have hn : (zaq s).2.1 ≤ s.size := by
  rcases zci s with h | ⟨e, h, _⟩
  ·exact h.2.2.1
  ·rw [h]; exact Nat.zero_le _
 have hW := WrAt.new w a b 1 d ⟨#[]⟩ 0;have b0 := zaa w (wrO a b 1 d ⟨#[]⟩ 0);have hR := WrAt.new (w.alloc (wrO a b 1 d ⟨#[]⟩ 0)) 0 0 0 ⟨#[]⟩ ⟨#[]⟩ 0;have b1 := zaa (w.alloc (wrO a b 1 d ⟨#[]⟩ 0)) (wrO 0 0 0 ⟨#[]⟩ ⟨#[]⟩ 0);have b01 := b0.trans (b1.mono b0.size);have gW := (zdf.new w a b 1 0 d ⟨#[]⟩).below (by simp) b1;have gR := zdf.new (w.alloc (wrO a b 1 d ⟨#[]⟩ 0)) 0 0 0 0 ⟨#[]⟩ ⟨#[]⟩;rw [World.size_alloc] at gR;replace hW := hW.below b1;rw [World.size_alloc] at hR;clear b0 b1;go_enter Tryz.func56, Tryz.ntmps56;go_wp2_with fail;generalize hWW : (w.alloc (wrO a b 1 d ⟨#[]⟩ 0)).alloc (wrO 0 0 0 ⟨#[]⟩ ⟨#[]⟩ 0) = W at *;have hlt : w.heap.size < W.heap.size := cell_lt hW.c0;have hlt1 : w.heap.size + 1 < W.heap.size := cell_lt hR.c0;clear hWW;refine (zgl s _ hs).mono ?_;rintro r w2 ⟨rfl, rfl⟩;generalize zaq s = y at *;obtain ⟨t, n, q⟩ := y;simp only at *;unfold maxLen at hs;have hs2 : (s.size : Int) - ((s.size - n : Nat) : Int) = (n : Int) := by omega
 by_cases hq : q = 0
 ·subst hq;have hr2 := Lib.hid (hr.out.trans (if_neg (by simp)));have x4 := hW.c4;have g4 := gW.f4;have hV := hW.val t;have hVR := hR.other (C := w.heap.size) (i := 4) (by omega) (.string t);have bV := b01.setCell (p := ⟨w.heap.size, 4, none⟩) (Nat.le_refl _) (.string t);have gVR := gR.set w.heap.size 4 (.string t);have sV : (W.setCell ⟨w.heap.size, 4, none⟩ (.string t)).heap.size = W.heap.size := by simp
  have hre : (s.extract n s.size).size = s.size - n := by simp
  have hsub : IntKind.i64.wrap ((s.size : Int) - ((s.extract n s.size).size : Int)) = (n : Int) := by rw [hre, IntWalk.i64_in _ (by omega)]; omega
  clear hW hR gW gR;go_wp2_with fail;go_region;have dD : Below (W.setCell ⟨w.heap.size, 4, none⟩ (.string t)).heap.size (W.setCell ⟨w.heap.size, 4, none⟩ (.string t)) (W.setCell ⟨w.heap.size, 4, none⟩ (.string t)).drew := (Below.refl _ _).drew;replace hV := hV.below dD;replace hVR := hVR.below dD;replace gVR := gVR.below (by rw [sV]; exact hlt1) dD;replace bV := bV.trans (dD.mono bV.size);generalize (W.setCell ⟨w.heap.size, 4, none⟩ (.string t)).drew = Wq at *;generalize s.extract n s.size = rest at *;have hltq : w.heap.size + 1 < Wq.heap.size := cell_lt hVR.c0;clear dD;have HV := hV;obtain ⟨v0, v1, v2, v3, v4, v5⟩ := hV;go_wp2_with fail;refine (zdj (a, b, 1, d, t, 0) _).mono ?_;rintro r w3 ⟨rfl, hb3⟩;have b03 := bV.trans (hb3.mono bV.size);have hVR3 := hVR.below hb3;have gVR3 := gVR.below (by first | omega | (simp; omega)) hb3;by_cases hw : zao (a, b, 1, d, t, 0) = 0
  ·rw [hw];have hr3 := Lib.hid (hr2.out.trans (show wend (a, b, 1, d, t, 0) n = _ from if_neg (by simp [hw])));have hZ := hVR3.put (a' := a) (b' := b) (c' := 1) (d' := d) (e' := t) (f' := 0);obtain ⟨y0, y1, y2, y3, y4, y5⟩ := HV.below hb3;obtain ⟨u0, u1, u2, u3, u4, u5⟩ := hVR3;obtain ⟨j0, j1, j2, j3, j4, j5⟩ := gVR3;clear hw;go_wp2;unfold put6 at hZ;obtain ⟨z0, z1, z2, z3, z4, z5⟩ := hZ;exact bodyPost_ret (v := .tuple #[.agg #[.int .i64 a, .int .i64 b, .int .i64 1, .string d, .string t, .int .i64 0], .int .i64 ((n : Nat) : Int), .int .i64 0]) (by simp [results, Tryz.results56, go_sem, z0, z1, z2, z3, z4, z5, hs2]) rfl ⟨by rw [hr3.out]; rfl, zax b03 (by omega)⟩
  ·have e7 : (zao (a, b, 1, d, t, 0) != 0) = true := by simpa using hw
   have hr3 := Lib.hid (hr2.out.trans (show wend (a, b, 1, d, t, 0) n = _ from if_pos hw));have HW := Lib.hid hw;clear hw;have hZ := hVR3.put (a' := 0) (b' := 0) (c' := 0) (d' := ⟨#[]⟩) (e' := ⟨#[]⟩) (f' := 0);obtain ⟨u0, u1, u2, u3, u4, u5⟩ := hVR3;obtain ⟨j0, j1, j2, j3, j4, j5⟩ := gVR3;go_wp2;unfold put6 at hZ;obtain ⟨z0, z1, z2, z3, z4, z5⟩ := hZ;exact bodyPost_ret (v := .tuple #[.agg #[.int .i64 0, .int .i64 0, .int .i64 0, .string ⟨#[]⟩, .string ⟨#[]⟩, .int .i64 0], .int .i64 0, .int .i64 (zao (a, b, 1, d, t, 0))]) (by simp [results, Tryz.results56, go_sem, z0, z1, z2, z3, z4, z5, hs2]) rfl ⟨by rw [hr3.out]; rfl, zax b03 (by omega)⟩
 ·have e7 : (q != 0) = true := by simpa using hq
  have hr2 := Lib.hid (hr.out.trans (if_pos hq));have HQ := Lib.hid hq;clear hq;have hZ := hR.put (a' := 0) (b' := 0) (c' := 0) (d' := ⟨#[]⟩) (e' := ⟨#[]⟩) (f' := 0);obtain ⟨u0, u1, u2, u3, u4, u5⟩ := hR;obtain ⟨j0, j1, j2, j3, j4, j5⟩ := gR;go_wp2;unfold put6 at hZ;obtain ⟨z0, z1, z2, z3, z4, z5⟩ := hZ;exact bodyPost_ret (v := .tuple #[.agg #[.int .i64 0, .int .i64 0, .int .i64 0, .string ⟨#[]⟩, .string ⟨#[]⟩, .int .i64 0], .int .i64 0, .int .i64 q]) (by simp [results, Tryz.results56, go_sem, z0, z1, z2, z3, z4, z5, hs2]) rfl ⟨by rw [hr2.out]; rfl, zax b01 (by omega)⟩
set_option maxHeartbeats 2000000 in
set_option maxRecDepth 100000 in
theorem ynn (a b f : Int) (d e s : ByteArray) (w : World) (hs : s.size ≤ maxLen) :
  Calls Tryz.prog 56 #[wrV a b 3 d e f, .string s] w fun r w' => r = .returned (zdk (zcy (a, b, 3, d, e, f) s)) ∧ Below w.heap.size w w' := by
 have hr := Lib.hid (show zcy (a, b, 3, d, e, f) s = if (vget s.data.toList).2.2 ≠ 0 then (noWr, 0, (vget s.data.toList).2.2) else wend (a, b, 3, d, ⟨#[]⟩, zagN (vget s.data.toList).1) (vget s.data.toList).2.1 from rfl);have hx : (vget s.data.toList).1 < 18446744073709551616 ∧ (vget s.data.toList).2.1 ≤ s.size := by
  rcases zdw s.data.toList with h | h | h | h
  ·exact ⟨h.2.1, by have := h.2.2.2.2; simpa using this⟩
  all_goals (rw [h]; exact ⟨by decide, Nat.zero_le _⟩)
 have hW := WrAt.new w a b 3 d ⟨#[]⟩ 0;have b0 := zaa w (wrO a b 3 d ⟨#[]⟩ 0);have hR := WrAt.new (w.alloc (wrO a b 3 d ⟨#[]⟩ 0)) 0 0 0 ⟨#[]⟩ ⟨#[]⟩ 0;have b1 := zaa (w.alloc (wrO a b 3 d ⟨#[]⟩ 0)) (wrO 0 0 0 ⟨#[]⟩ ⟨#[]⟩ 0);have b01 := b0.trans (b1.mono b0.size);have gW := (zdf.new w a b 3 0 d ⟨#[]⟩).below (by simp) b1;have gR := zdf.new (w.alloc (wrO a b 3 d ⟨#[]⟩ 0)) 0 0 0 0 ⟨#[]⟩ ⟨#[]⟩;rw [World.size_alloc] at gR;replace hW := hW.below b1;rw [World.size_alloc] at hR;clear b0 b1;go_enter Tryz.func56, Tryz.ntmps56;go_wp2_with fail;generalize hWW : (w.alloc (wrO a b 3 d ⟨#[]⟩ 0)).alloc (wrO 0 0 0 ⟨#[]⟩ ⟨#[]⟩ 0) = W at *;have hlt : w.heap.size < W.heap.size := cell_lt hW.c0;have hlt1 : w.heap.size + 1 < W.heap.size := cell_lt hR.c0;clear hWW;refine (zcq s _ hs).mono ?_;rintro r w2 ⟨rfl, rfl⟩;generalize vget s.data.toList = y at *;obtain ⟨x, n, q⟩ := y;simp only at *;obtain ⟨hx, hn⟩ := hx;unfold maxLen at hs;have hs2 : (s.size : Int) - ((s.size - n : Nat) : Int) = (n : Int) := by omega
 by_cases hq : q = 0
 ·subst hq;have hr2 := Lib.hid (hr.out.trans (if_neg (by simp)));have x5 := hW.c5;have g5 := gW.f5;have hV := hW.num (zagN x);have hVR := hR.other (C := w.heap.size) (i := 5) (by omega) (.int .i64 (zagN x));have bV := b01.setCell (p := ⟨w.heap.size, 5, none⟩) (Nat.le_refl _) (.int .i64 (zagN x));have gVR := gR.set w.heap.size 5 (.int .i64 (zagN x));have sV : (W.setCell ⟨w.heap.size, 5, none⟩ (.int .i64 (zagN x))).heap.size = W.heap.size := by simp
  clear hW hR gW gR;go_wp2_with fail;go_region_with (go_at_call 101; refine (Zg.ygv (x : Int) _ (by omega) (by omega)).mono ?_; rintro r w2 ⟨rfl, rfl⟩; rw [Zg.yiz]);have dD : Below (W.setCell ⟨w.heap.size, 5, none⟩ (.int .i64 (zagN x))).heap.size (W.setCell ⟨w.heap.size, 5, none⟩ (.int .i64 (zagN x))) (W.setCell ⟨w.heap.size, 5, none⟩ (.int .i64 (zagN x))).drew := (Below.refl _ _).drew;replace hV := hV.below dD;replace hVR := hVR.below dD;replace gVR := gVR.below (by rw [sV]; exact hlt1) dD;replace bV := bV.trans (dD.mono bV.size);generalize (W.setCell ⟨w.heap.size, 5, none⟩ (.int .i64 (zagN x))).drew = Wq at *;have hre : (s.extract n s.size).size = s.size - n := by simp
  generalize s.extract n s.size = rest at *;have hltq : w.heap.size + 1 < Wq.heap.size := cell_lt hVR.c0;clear dD;have HV := hV;obtain ⟨v0, v1, v2, v3, v4, v5⟩ := hV;go_wp2_with fail;refine (zdj (a, b, 3, d, ⟨#[]⟩, (zagN x)) _).mono ?_;rintro r w3 ⟨rfl, hb3⟩;have b03 := bV.trans (hb3.mono bV.size);have hVR3 := hVR.below hb3;have gVR3 := gVR.below (by first | omega | (simp; omega)) hb3;by_cases hw : zao (a, b, 3, d, ⟨#[]⟩, (zagN x)) = 0
  ·rw [hw];have hr3 := Lib.hid (hr2.out.trans (show wend (a, b, 3, d, ⟨#[]⟩, (zagN x)) n = _ from if_neg (by simp [hw])));have hZ := hVR3.put (a' := a) (b' := b) (c' := 3) (d' := d) (e' := ⟨#[]⟩) (f' := (zagN x));obtain ⟨y0, y1, y2, y3, y4, y5⟩ := HV.below hb3;obtain ⟨u0, u1, u2, u3, u4, u5⟩ := hVR3;obtain ⟨j0, j1, j2, j3, j4, j5⟩ := gVR3;clear hw;go_wp2;unfold put6 at hZ;obtain ⟨z0, z1, z2, z3, z4, z5⟩ := hZ;exact bodyPost_ret (v := .tuple #[.agg #[.int .i64 a, .int .i64 b, .int .i64 3, .string d, .string ⟨#[]⟩, .int .i64 (zagN x)], .int .i64 ((n : Nat) : Int), .int .i64 0]) (by simp [results, Tryz.results56, go_sem, z0, z1, z2, z3, z4, z5, hs2]) rfl ⟨by rw [hr3.out]; rfl, zax b03 (by omega)⟩
  ·have e7 : (zao (a, b, 3, d, ⟨#[]⟩, (zagN x)) != 0) = true := by simpa using hw
   have hr3 := Lib.hid (hr2.out.trans (show wend (a, b, 3, d, ⟨#[]⟩, (zagN x)) n = _ from if_pos hw));have HW := Lib.hid hw;clear hw;have hZ := hVR3.put (a' := 0) (b' := 0) (c' := 0) (d' := ⟨#[]⟩) (e' := ⟨#[]⟩) (f' := 0);obtain ⟨u0, u1, u2, u3, u4, u5⟩ := hVR3;obtain ⟨j0, j1, j2, j3, j4, j5⟩ := gVR3;go_wp2;unfold put6 at hZ;obtain ⟨z0, z1, z2, z3, z4, z5⟩ := hZ;exact bodyPost_ret (v := .tuple #[.agg #[.int .i64 0, .int .i64 0, .int .i64 0, .string ⟨#[]⟩, .string ⟨#[]⟩, .int .i64 0], .int .i64 0, .int .i64 (zao (a, b, 3, d, ⟨#[]⟩, (zagN x)))]) (by simp [results, Tryz.results56, go_sem, z0, z1, z2, z3, z4, z5, hs2]) rfl ⟨by rw [hr3.out]; rfl, zax b03 (by omega)⟩
 ·have e7 : (q != 0) = true := by simpa using hq
  have hr2 := Lib.hid (hr.out.trans (if_pos hq));have HQ := Lib.hid hq;clear hq;have hZ := hR.put (a' := 0) (b' := 0) (c' := 0) (d' := ⟨#[]⟩) (e' := ⟨#[]⟩) (f' := 0);obtain ⟨u0, u1, u2, u3, u4, u5⟩ := hR;obtain ⟨j0, j1, j2, j3, j4, j5⟩ := gR;go_wp2;unfold put6 at hZ;obtain ⟨z0, z1, z2, z3, z4, z5⟩ := hZ;exact bodyPost_ret (v := .tuple #[.agg #[.int .i64 0, .int .i64 0, .int .i64 0, .string ⟨#[]⟩, .string ⟨#[]⟩, .int .i64 0], .int .i64 0, .int .i64 q]) (by simp [results, Tryz.results56, go_sem, z0, z1, z2, z3, z4, z5, hs2]) rfl ⟨by rw [hr2.out]; rfl, zax b01 (by omega)⟩
set_option maxHeartbeats 2000000 in
set_option maxRecDepth 100000 in
theorem ymz (a b c f : Int) (d e s : ByteArray) (w : World) (h1 : c ≠ 1) (h3 : c ≠ 3) (h4 : c ≠ 4) :
  Calls Tryz.prog 56 #[wrV a b c d e f, .string s] w fun r w' => r = .returned (zdk (zcy (a, b, c, d, e, f) s)) ∧ Below w.heap.size w w' := by
 have hr2 := Lib.hid (show zcy (a, b, c, d, e, f) s = wend (a, b, c, d, ⟨#[]⟩, 0) 0 by unfold zcy; rw [if_neg h1, if_neg h3, if_neg h4]);have e1 : (c == 1) = false := by simpa using h1
 have e3 : (c == 3) = false := by simpa using h3
 have e4 : (c == 4) = false := by simpa using h4
 clear h1 h3 h4;have hW := WrAt.new w a b c d ⟨#[]⟩ 0;have b0 := zaa w (wrO a b c d ⟨#[]⟩ 0);have hR := WrAt.new (w.alloc (wrO a b c d ⟨#[]⟩ 0)) 0 0 0 ⟨#[]⟩ ⟨#[]⟩ 0;have b1 := zaa (w.alloc (wrO a b c d ⟨#[]⟩ 0)) (wrO 0 0 0 ⟨#[]⟩ ⟨#[]⟩ 0);have b01 := b0.trans (b1.mono b0.size);have gW := (zdf.new w a b c 0 d ⟨#[]⟩).below (by simp) b1;have gR := zdf.new (w.alloc (wrO a b c d ⟨#[]⟩ 0)) 0 0 0 0 ⟨#[]⟩ ⟨#[]⟩;rw [World.size_alloc] at gR;replace hW := hW.below b1;rw [World.size_alloc] at hR;clear b0 b1;go_enter Tryz.func56, Tryz.ntmps56;go_wp2_with fail;generalize hWW : (w.alloc (wrO a b c d ⟨#[]⟩ 0)).alloc (wrO 0 0 0 ⟨#[]⟩ ⟨#[]⟩ 0) = W at *;have hlt : w.heap.size < W.heap.size := cell_lt hW.c0;have hlt1 : w.heap.size + 1 < W.heap.size := cell_lt hR.c0;clear hWW;have hV := hW;have hVR := hR;have gVR := gR;have bV := b01;have HV := hV;refine (zdj (a, b, c, d, ⟨#[]⟩, 0) _).mono ?_;rintro r w3 ⟨rfl, hb3⟩;have b03 := bV.trans (hb3.mono bV.size);have hVR3 := hVR.below hb3;have gVR3 := gVR.below (by first | omega | (simp; omega)) hb3;by_cases hw : zao (a, b, c, d, ⟨#[]⟩, 0) = 0
 ·rw [hw];have hr3 := Lib.hid (hr2.out.trans (show wend (a, b, c, d, ⟨#[]⟩, 0) 0 = _ from if_neg (by simp [hw])));have hZ := hVR3.put (a' := a) (b' := b) (c' := c) (d' := d) (e' := ⟨#[]⟩) (f' := 0);obtain ⟨y0, y1, y2, y3, y4, y5⟩ := HV.below hb3;obtain ⟨u0, u1, u2, u3, u4, u5⟩ := hVR3;obtain ⟨j0, j1, j2, j3, j4, j5⟩ := gVR3;clear hw;go_wp2;unfold put6 at hZ;obtain ⟨z0, z1, z2, z3, z4, z5⟩ := hZ;exact bodyPost_ret (v := .tuple #[.agg #[.int .i64 a, .int .i64 b, .int .i64 c, .string d, .string ⟨#[]⟩, .int .i64 0], .int .i64 ((0 : Nat) : Int), .int .i64 0]) (by simp [results, Tryz.results56, go_sem, z0, z1, z2, z3, z4, z5]) rfl ⟨by rw [hr3.out]; rfl, zax b03 (by omega)⟩
 ·have e7 : (zao (a, b, c, d, ⟨#[]⟩, 0) != 0) = true := by simpa using hw
  have hr3 := Lib.hid (hr2.out.trans (show wend (a, b, c, d, ⟨#[]⟩, 0) 0 = _ from if_pos hw));have HW := Lib.hid hw;clear hw;have hZ := hVR3.put (a' := 0) (b' := 0) (c' := 0) (d' := ⟨#[]⟩) (e' := ⟨#[]⟩) (f' := 0);obtain ⟨u0, u1, u2, u3, u4, u5⟩ := hVR3;obtain ⟨j0, j1, j2, j3, j4, j5⟩ := gVR3;go_wp2;unfold put6 at hZ;obtain ⟨z0, z1, z2, z3, z4, z5⟩ := hZ;exact bodyPost_ret (v := .tuple #[.agg #[.int .i64 0, .int .i64 0, .int .i64 0, .string ⟨#[]⟩, .string ⟨#[]⟩, .int .i64 0], .int .i64 0, .int .i64 (zao (a, b, c, d, ⟨#[]⟩, 0))]) (by simp [results, Tryz.results56, go_sem, z0, z1, z2, z3, z4, z5]) rfl ⟨by rw [hr3.out]; rfl, zax b03 (by omega)⟩
set_option maxHeartbeats 2000000 in
set_option maxRecDepth 100000 in
theorem ymm (a b f : Int) (d e s : ByteArray) (w : World) (hs : s.size ≤ maxLen) :
  Calls Tryz.prog 56 #[wrV a b 4 d e f, .string s] w fun r w' => r = .returned (zdk (zcy (a, b, 4, d, e, f) s)) ∧ Below w.heap.size w w' := by
 have hr := Lib.hid (show zcy (a, b, 4, d, e, f) s = if (vint s.data.toList 1000).2.2 ≠ 0 then (noWr, 0, (vint s.data.toList 1000).2.2)
  else if (zaq (s.extract (vint s.data.toList 1000).2.1 s.size)).2.2 ≠ 0 then (noWr, 0, (zaq (s.extract (vint s.data.toList 1000).2.1 s.size)).2.2)
  else wend (a, b, 4, d, (zaq (s.extract (vint s.data.toList 1000).2.1 s.size)).1, ((vint s.data.toList 1000).1 : Int)) ((vint s.data.toList 1000).2.1 + (zaq (s.extract (vint s.data.toList 1000).2.1 s.size)).2.1) from rfl)
 have hx : (vint s.data.toList 1000).2.1 ≤ s.size := by
  rcases zmy s.data.toList 1000 with h | ⟨e, h, _⟩
  ·have := h.2.2.2.2.2; simpa using this
  ·rw [h]; exact Nat.zero_le _
 have hW := WrAt.new w a b 4 d ⟨#[]⟩ 0;have b0 := zaa w (wrO a b 4 d ⟨#[]⟩ 0);have hR := WrAt.new (w.alloc (wrO a b 4 d ⟨#[]⟩ 0)) 0 0 0 ⟨#[]⟩ ⟨#[]⟩ 0;have b1 := zaa (w.alloc (wrO a b 4 d ⟨#[]⟩ 0)) (wrO 0 0 0 ⟨#[]⟩ ⟨#[]⟩ 0);have b01 := b0.trans (b1.mono b0.size);have gW := (zdf.new w a b 4 0 d ⟨#[]⟩).below (by simp) b1;have gR := zdf.new (w.alloc (wrO a b 4 d ⟨#[]⟩ 0)) 0 0 0 0 ⟨#[]⟩ ⟨#[]⟩;rw [World.size_alloc] at gR;replace hW := hW.below b1;rw [World.size_alloc] at hR;clear b0 b1;go_enter Tryz.func56, Tryz.ntmps56;go_wp2_with fail;generalize hWW : (w.alloc (wrO a b 4 d ⟨#[]⟩ 0)).alloc (wrO 0 0 0 ⟨#[]⟩ ⟨#[]⟩ 0) = W at *;have hlt : w.heap.size < W.heap.size := cell_lt hW.c0;have hlt1 : w.heap.size + 1 < W.heap.size := cell_lt hR.c0;clear hWW;refine (zjt s 1000 _ hs (by omega)).mono ?_;rintro r w2 ⟨rfl, rfl⟩;generalize vint s.data.toList 1000 = y at *;obtain ⟨x, n, q⟩ := y;simp only at *;unfold maxLen at hs;by_cases hq : q = 0
 ·subst hq;have hr2' := Lib.hid (hr.out.trans (if_neg (by simp)));clear hr;have x5 := hW.c5;have g5 := gW.f5;have hV := hW.num (x : Int);have hVR := hR.other (C := w.heap.size) (i := 5) (by omega) (.int .i64 (x : Int));have bV := b01.setCell (p := ⟨w.heap.size, 5, none⟩) (Nat.le_refl _) (.int .i64 (x : Int));have gVR := gR.set w.heap.size 5 (.int .i64 (x : Int));have gV := gW.set w.heap.size 5 (.int .i64 (x : Int));have sV : (W.setCell ⟨w.heap.size, 5, none⟩ (.int .i64 (x : Int))).heap.size = W.heap.size := by simp
  clear hW hR gW gR;go_wp2_with fail;go_region;have dD : Below (W.setCell ⟨w.heap.size, 5, none⟩ (.int .i64 (x : Int))).heap.size (W.setCell ⟨w.heap.size, 5, none⟩ (.int .i64 (x : Int))) (W.setCell ⟨w.heap.size, 5, none⟩ (.int .i64 (x : Int))).drew := (Below.refl _ _).drew;replace hV := hV.below dD;replace hVR := hVR.below dD;replace gVR := gVR.below (by rw [sV]; exact hlt1) dD;replace gV := gV.below (by rw [sV]; exact hlt) dD;replace bV := bV.trans (dD.mono bV.size);generalize (W.setCell ⟨w.heap.size, 5, none⟩ (.int .i64 (x : Int))).drew = Wq at *;have hre : (s.extract n s.size).size = s.size - n := by simp
  generalize s.extract n s.size = rest at *;have hltq : w.heap.size + 1 < Wq.heap.size := cell_lt hVR.c0;clear dD sV;obtain ⟨v0, v1, v2, v3, v4, v5⟩ := id hV;go_wp2_with fail;refine (zgl rest _ (by unfold maxLen; omega)).mono ?_;rintro r w2 ⟨rfl, rfl⟩;clear v0 v1 v2 v3 v4 v5;have hn : (zaq rest).2.1 ≤ rest.size := by
   rcases zci rest with h | ⟨e, h, _⟩
   ·exact h.2.2.1
   ·rw [h]; exact Nat.zero_le _
  generalize zaq rest = y at *;obtain ⟨t, k, q2⟩ := y;simp only at *;have hs2 : (s.size : Int) - ((s.size - n - k : Nat) : Int) = (n : Int) + (k : Int) := by omega
  by_cases hq2 : q2 = 0
  ·subst hq2;have hr2 := Lib.hid (hr2'.out.trans (if_neg (by simp)));have x4 := hV.c4;have g4 := gV.f4;have hV2 := hV.val t;have hVR2 := hVR.other (C := w.heap.size) (i := 4) (by omega) (.string t);have bV2 := bV.setCell (p := ⟨w.heap.size, 4, none⟩) (Nat.le_refl _) (.string t);have gVR2 := gVR.set w.heap.size 4 (.string t);have sV2 : (Wq.setCell ⟨w.heap.size, 4, none⟩ (.string t)).heap.size = Wq.heap.size := by simp
   clear hV hVR gVR gV;go_wp2_with fail;go_region;have dD : Below (Wq.setCell ⟨w.heap.size, 4, none⟩ (.string t)).heap.size (Wq.setCell ⟨w.heap.size, 4, none⟩ (.string t)) (Wq.setCell ⟨w.heap.size, 4, none⟩ (.string t)).drew := (Below.refl _ _).drew;have hV := hV2.below dD;have hVR := hVR2.below dD;have gVR := gVR2.below (by rw [sV2]; exact hltq) dD;replace bV := bV2.trans (dD.mono bV2.size);generalize (Wq.setCell ⟨w.heap.size, 4, none⟩ (.string t)).drew = Wr at *;have hre2 : (rest.extract k rest.size).size = rest.size - k := by simp
   generalize rest.extract k rest.size = rest2 at *;have hltr : w.heap.size + 1 < Wr.heap.size := cell_lt hVR.c0;clear dD hV2 hVR2 gVR2 bV2;have HV := hV;obtain ⟨v0, v1, v2, v3, v4, v5⟩ := hV;go_wp2_with fail;refine (zdj (a, b, 4, d, t, (x : Int)) _).mono ?_;rintro r w3 ⟨rfl, hb3⟩;have b03 := bV.trans (hb3.mono bV.size);have hVR3 := hVR.below hb3;have gVR3 := gVR.below (by first | omega | (simp; omega)) hb3;by_cases hw : zao (a, b, 4, d, t, (x : Int)) = 0
   ·rw [hw];have hr3 := Lib.hid (hr2.out.trans (show wend (a, b, 4, d, t, (x : Int)) (n + k) = _ from if_neg (by simp [hw])));have hZ := hVR3.put (a' := a) (b' := b) (c' := 4) (d' := d) (e' := t) (f' := (x : Int));obtain ⟨y0, y1, y2, y3, y4, y5⟩ := HV.below hb3;obtain ⟨u0, u1, u2, u3, u4, u5⟩ := hVR3;obtain ⟨j0, j1, j2, j3, j4, j5⟩ := gVR3;clear hw;go_wp2;unfold put6 at hZ;obtain ⟨z0, z1, z2, z3, z4, z5⟩ := hZ;exact bodyPost_ret (v := .tuple #[.agg #[.int .i64 a, .int .i64 b, .int .i64 4, .string d, .string t, .int .i64 (x : Int)], .int .i64 (((n + k) : Nat) : Int), .int .i64 0]) (by simp [results, Tryz.results56, go_sem, z0, z1, z2, z3, z4, z5, hs2]) rfl ⟨by rw [hr3.out]; rfl, zax b03 (by omega)⟩
   ·have e7 : (zao (a, b, 4, d, t, (x : Int)) != 0) = true := by simpa using hw
    have hr3 := Lib.hid (hr2.out.trans (show wend (a, b, 4, d, t, (x : Int)) (n + k) = _ from if_pos hw));have HW := Lib.hid hw;clear hw;have hZ := hVR3.put (a' := 0) (b' := 0) (c' := 0) (d' := ⟨#[]⟩) (e' := ⟨#[]⟩) (f' := 0);obtain ⟨u0, u1, u2, u3, u4, u5⟩ := hVR3;obtain ⟨j0, j1, j2, j3, j4, j5⟩ := gVR3;go_wp2;unfold put6 at hZ;obtain ⟨z0, z1, z2, z3, z4, z5⟩ := hZ;exact bodyPost_ret (v := .tuple #[.agg #[.int .i64 0, .int .i64 0, .int .i64 0, .string ⟨#[]⟩, .string ⟨#[]⟩, .int .i64 0], .int .i64 0, .int .i64 (zao (a, b, 4, d, t, (x : Int)))]) (by simp [results, Tryz.results56, go_sem, z0, z1, z2, z3, z4, z5, hs2]) rfl ⟨by rw [hr3.out]; rfl, zax b03 (by omega)⟩
  ·have e7 : (q2 != 0) = true := by simpa using hq2
   have hr2 := Lib.hid (hr2'.out.trans (if_pos hq2));have HQ := Lib.hid hq2;clear hq2;have hZ := hVR.put (a' := 0) (b' := 0) (c' := 0) (d' := ⟨#[]⟩) (e' := ⟨#[]⟩) (f' := 0);obtain ⟨u0, u1, u2, u3, u4, u5⟩ := hVR;obtain ⟨j0, j1, j2, j3, j4, j5⟩ := gVR;go_wp2;unfold put6 at hZ;obtain ⟨z0, z1, z2, z3, z4, z5⟩ := hZ;exact bodyPost_ret (v := .tuple #[.agg #[.int .i64 0, .int .i64 0, .int .i64 0, .string ⟨#[]⟩, .string ⟨#[]⟩, .int .i64 0], .int .i64 0, .int .i64 q2]) (by simp [results, Tryz.results56, go_sem, z0, z1, z2, z3, z4, z5, hs2]) rfl ⟨by rw [hr2.out]; rfl, zax bV (by omega)⟩
 ·have e7 : (q != 0) = true := by simpa using hq
  have hr2 := Lib.hid (hr.out.trans (if_pos hq));have HQ := Lib.hid hq;clear hq;have hZ := hR.put (a' := 0) (b' := 0) (c' := 0) (d' := ⟨#[]⟩) (e' := ⟨#[]⟩) (f' := 0);obtain ⟨u0, u1, u2, u3, u4, u5⟩ := hR;obtain ⟨j0, j1, j2, j3, j4, j5⟩ := gR;go_wp2;unfold put6 at hZ;obtain ⟨z0, z1, z2, z3, z4, z5⟩ := hZ;exact bodyPost_ret (v := .tuple #[.agg #[.int .i64 0, .int .i64 0, .int .i64 0, .string ⟨#[]⟩, .string ⟨#[]⟩, .int .i64 0], .int .i64 0, .int .i64 q]) (by simp [results, Tryz.results56, go_sem, z0, z1, z2, z3, z4, z5]) rfl ⟨by rw [hr2.out]; rfl, zax b01 (by omega)⟩
theorem zti (x : Wr) (s : ByteArray) (w : World) (hs : s.size ≤ maxLen) :
  Calls Tryz.prog 56 #[wrV x.1 x.2.1 x.2.2.1 x.2.2.2.1 x.2.2.2.2.1 x.2.2.2.2.2, .string s] w fun r w' => r = .returned (zdk (zcy x s)) ∧ Below w.heap.size w w' := by
 obtain ⟨a, b, c, d, e, f⟩ := x;by_cases h1 : c = 1
 ·subst h1; exact yno a b f d e s w hs
 ·by_cases h3 : c = 3
  ·subst h3; exact ynn a b f d e s w hs
  ·by_cases h4 : c = 4
   ·subst h4; exact ymm a b f d e s w hs
   ·exact ymz a b c f d e s w h1 h3 h4
end Go.Proofs.YtkejlnjnoiidnaaGreatDoor
end

section
namespace Go.Proofs.YtkejlnjnoiidnaaGreatDoor
open Go.RowKit As
set_option maxHeartbeats 4000000 in
set_option maxRecDepth 100000 in
theorem zjh (w : World) (x : zav) (hb : Bat w x) (hf : ∀ y ∈ x.f, zbe y) (hh : ∀ y ∈ x.h, zbe y) :
  Calls Tryz.prog 29 #[x.v] w fun e w' => e = .returned (zba (zbd x.f x.h x.l)) ∧ Below w.heap.size w w' := by
 have hbx := BxAt.new w x;have b0 := zaa w (.cells #[.slice x.A x.n x.c, .slice x.A' x.n' x.c', .slice x.A'' x.n'' x.c''] 25);obtain ⟨A, n, c, A', n', c', A'', n'', c'', f, h, l⟩ := x;obtain ⟨sf, sh, sl, nf, nh, nl⟩ := hb;simp only at hbx b0 hf hh sf sh sl nf nh nl ⊢;have ef : Ents w w.heap.size A n f := ⟨sf, hf⟩;have eh : Ents w w.heap.size A' n' h := ⟨sh, hh⟩;have hT0 := Two.new (w.alloc (.cells #[.slice A n c, .slice A' n' c', .slice A'' n'' c''] 25)) 0 0 29;have bT := zaa (w.alloc (.cells #[.slice A n c, .slice A' n' c', .slice A'' n'' c''] 25)) (.cells #[.int .i64 0, .int .i64 0] 29);rw [World.size_alloc] at hT0;replace hbx := hbx.below bT;replace b0 := b0.trans (bT.mono b0.size);have ef0 := ef.grow b0;have eh0 := eh.grow b0;have sl0 := sl.grow b0;have hll := zfx zbb 6 (by omega) (fun _ => rfl) sl;clear sf sh hf hh sl ef eh;unfold zav.v zba;simp only;go_enter Tryz.func29, Tryz.ntmps29;go_wp2_with fail;generalize hW : (w.alloc (.cells #[.slice A n c, .slice A' n' c', .slice A'' n'' c''] 25)).alloc (.cells #[.int .i64 0, .int .i64 0] 29) = W at *;refine (zeo _ n c A f ef0 nf).mono ?_;rintro r w1 ⟨rfl, hb1⟩;unfold zba;go_wp2_with fail;have hk1 := zaa w1 (.cells #[.int .i64 (zaf f).1, .int .i64 (zaf f).2] 29);have T1 := Two.new w1 (zaf f).1 (zaf f).2 29;refine (zcd (zaf f) _).mono ?_;rintro r w2 ⟨rfl, hb2⟩;obtain ⟨g0, g1, _, _⟩ := T1.below hb2;have hb11 := hb1.trans (hk1.mono hb1.size);have hb12 := hb11.trans (hb2.mono hb11.size);clear hk1 T1 hb2 hb1 hb11;by_cases h1 : (zaf f).1 = 0
 ·have e1 : ((zaf f).1 == 0) = true := by simpa using h1
  rw [e1];clear e1;clear g0 g1;have d1 := (hbx.below hb12).c1;simp only at d1;go_wp2_with fail;refine (zeo _ n' c' A' h (eh0.grow hb12) nh).mono ?_;rintro r w3 ⟨rfl, hb3⟩;unfold zba;go_wp2_with fail;have hk3 := zaa w3 (.cells #[.int .i64 (zaf h).1, .int .i64 (zaf h).2] 29);have T3 := Two.new w3 (zaf h).1 (zaf h).2 29;refine (zcd (zaf h) _).mono ?_;rintro r w4 ⟨rfl, hb4⟩;obtain ⟨g0, g1, _, _⟩ := T3.below hb4;have hb13 := hb12.trans (hb3.mono hb12.size);have hb13' := hb13.trans (hk3.mono hb13.size);have hb14 := hb13'.trans (hb4.mono hb13'.size);clear hk3 T3 hb3 hb4 hb13 hb13';by_cases h2 : (zaf h).1 = 0
  ·have e1 : ((zaf h).1 == 0) = true := by simpa using h2
   rw [e1];clear e1;clear g0 g1 d1;have d0 := (hbx.below hb14).c0;have d1 := (hbx.below hb14).c1;simp only at d0 d1;go_wp2_with fail;refine (zvs _ n' c' n c A' A h f (eh0.grow hb14) (ef0.grow hb14) nh nf).mono ?_;rintro r w5 ⟨rfl, hb5⟩;have hb15 := hb14.trans (hb5.mono hb14.size);clear hb5;cases hc : zcx h f with
   | false =>
    have hr := Lib.hid (zwk (l := l) h1 h2 hc);clear hc h1 h2;go_wp2_with fail;refine (zbi _ _).mono ?_;rintro r w6 ⟨rfl, hbx⟩;have hbw6 := hb15.trans (hbx.mono hb15.size);obtain ⟨c0, c1, f0, f1⟩ := hT0.below hbw6;have S := set2 (.int .i64 13) (.int .i64 (-1)) c0 c1;go_wp2;exact bodyPost_ret (v := .agg #[.int .i64 13, .int .i64 (-1)]) (by simp [results, Tryz.results29, go_sem, S.1, S.2]) rfl ⟨by rw [hr.out], zai _ _ (b0.trans (hbw6.mono b0.size)) (by omega)⟩
   | true =>
    have hll' : l.length = n'' := by omega
    have d2 := (hbx.below hb15).c2;simp only at d2;by_cases hl6 : 60 < n''
    ·have hr := Lib.hid (zxu (l := l) h1 h2 hc (by omega));have e5 : decide ((60 : Int) < (n'' : Int)) = true := by simp; omega
     have e6 : decide (60 < n'') = true := by simp; omega
     clear hc h1 h2;go_wp2_with fail;refine (zbi _ _).mono ?_;rintro r w6 ⟨rfl, hbx⟩;have hbw6 := hb15.trans (hbx.mono hb15.size);obtain ⟨c0, c1, f0, f1⟩ := hT0.below hbw6;have S := set2 (.int .i64 4) (.int .i64 (-1)) c0 c1;go_wp2;exact bodyPost_ret (v := .agg #[.int .i64 4, .int .i64 (-1)]) (by simp [results, Tryz.results29, go_sem, S.1, S.2]) rfl ⟨by rw [hr.out], zai _ _ (b0.trans (hbw6.mono b0.size)) (by omega)⟩
    ·have hr := Lib.hid (zsv (l := l) h1 h2 hc (by omega));have e5 : decide ((60 : Int) < (n'' : Int)) = false := by simp; omega
     have e6 : decide (60 < n'') = false := by simp; omega
     clear hc h1 h2;have bl := zaa w5 (.cells #[.int .i64 0, .int .i64 0] 51);have TL := Two.new w5 0 0 51;have d2 := (bl.cell (cell_lt d2)).trans d2;go_wp2;go_loopw [6, 7, 8, 43] (fun _ _ _ i wr => ∃ k : Nat, k ≤ n'' ∧ i = .int .i64 k ∧ Hid (BAt f h l k) ∧ Two wr w5.heap.size (zda l k).1 (zda l k).2 ∧ Below w5.heap.size w5 wr) (fun _ _ _ i _ => n'' - (intOf i).toNat)
     case atStart => exact ⟨0, by omega, rfl, Lib.hid BAt.zero, TL, bl⟩
     case round =>
      obtain ⟨k, hk, rfl, hat, hTL, hbel⟩ := hrel;have hB := hbel.size;have hbc := hb15.trans (hbel.mono hb15.size);by_cases hlt : k < n''
      ·obtain ⟨b, o, ⟨a0, a1, a2, d, e, m⟩, rfl, hbB, hx, hcl⟩ := zvh (sl0.grow hbc) hlt;have c0 : wr.cell? ⟨b, o + k * 6, none⟩ = some (.int .i64 a0) := hcl 0 _ rfl;have c1 := hcl 1 _ rfl;have c2 := hcl 2 _ rfl;have c3 := hcl 3 _ rfl;have c4 := hcl 4 _ rfl;have c5 := hcl 5 _ rfl;have hX := Lib.hid hx;clear hcl hx;have kb := zaa wr (wrO a0 a1 a2 d e m);have ka := WrAt.new wr a0 a1 a2 d e m;generalize hla : zda l k = la at *;obtain ⟨la, lb⟩ := la;have hla := Lib.hid hla;simp only at hTL;by_cases hz : zao (a0, a1, a2, d, e, m) = 0
       ·have hwr0 := Lib.hid hz;clear hz;go_wp2_with fail;refine (zdj (a0, a1, a2, d, e, m) _).mono ?_;rintro r w6 ⟨rfl, hb6⟩;rw [hwr0.out];have hk6 := kb.trans (hb6.mono kb.size);have hbc6 := hbc.trans (hk6.mono hbc.size);obtain ⟨t0, t1, t2, t3⟩ := hTL.below hk6;have q2 := (ka.below hb6).c0;have q3 := (ka.below hb6).c1;by_cases h0 : k = 0
        ·have hno := Lib.hid (show ¬ (0 < k ∧ 0 ≤ zdr (zda l k) (wid (a0, a1, a2, d, e, m))) by omega);have e8 : decide (0 < k) = false := by simp; omega
         have e9 : decide ((0 : Int) < (k : Int)) = false := by simp; omega
         clear h0;have T6 := hTL.below hk6;have g0 := (hbx.below hbc6).c0;have g1 := (hbx.below hbc6).c1;simp only at g0 g1;cases hin : zco (a0, a1) f h with
         | true =>
          have hnx := Lib.hid (BAt.succ hat.out hX.out hwr0.out hno.out hin);have hls := Lib.hid (zep hX.out);go_wp2_with fail;refine (zgk a0 a1 n n' c c' A A' f h _ (ef0.grow hbc6) (eh0.grow hbc6) nf nh).mono ?_;rintro r w8 ⟨rfl, hb8⟩;rw [hin];clear hin g0 g1;obtain ⟨t0, t1, t2, t3⟩ := T6.below hb8;have q2 := (hb8.cell (cell_lt q2)).trans q2;have q3 := (hb8.cell (cell_lt q3)).trans q3;have hk8 := hk6.trans (hb8.mono hk6.size);have SL := set2 (.int .i64 a0) (.int .i64 a1) t0 t1;go_wp2;go_roundw
          case rel => exact ⟨k + 1, by omega, by go_num, hnx, by rw [hls.out]; exact ⟨SL.1, SL.2, by simpa using t2, by simpa using t3⟩, zai _ _ (hbel.trans (hk8.mono hB)) (Nat.le_refl _)⟩
          case measure => simp [intOf]; omega
         | false =>
          have hres := Lib.hid (BAt.state hat.out hX.out hwr0.out hno.out hin);go_wp2_with fail;refine (zgk a0 a1 n n' c c' A A' f h _ (ef0.grow hbc6) (eh0.grow hbc6) nf nh).mono ?_;rintro r w8 ⟨rfl, hb8⟩;rw [hin];clear hin g0 g1;have hbc8 := hbc6.trans (hb8.mono hbc6.size);obtain ⟨c0, c1, f0, f1⟩ := hT0.below hbc8;have S := set2 (.int .i64 6) (.int .i64 (k : Int)) c0 c1;go_wp2;exact bodyPost_ret (v := .agg #[.int .i64 6, .int .i64 (k : Int)]) (by simp [results, Tryz.results29, go_sem, S.1, S.2]) rfl ⟨by rw [hr.out, hres.out], zai _ _ (b0.trans (hbc8.mono b0.size)) (by omega)⟩
        ·have e8 : decide (0 < k) = true := by simp; omega
         have e9 : decide ((0 : Int) < (k : Int)) = true := by simp; omega
         have hk0 : 0 < k := by omega
         clear h0;go_wp2_with fail;refine (zrv la lb a0 a1 _).mono ?_;rintro r w7 ⟨rfl, hb7⟩;have hk7 := hk6.trans (hb7.mono hk6.size);have hbc7 := hbc.trans (hk7.mono hbc.size);have q2 := (hb7.cell (cell_lt q2)).trans q2;have q3 := (hb7.cell (cell_lt q3)).trans q3;have T7 := hTL.below hk7;by_cases hcmp : 0 ≤ zdr (la, lb) (a0, a1)
         ·have hres := Lib.hid (BAt.order hat.out hX.out hwr0.out hk0 (by rw [hla.out]; exact hcmp));have e10 : decide (0 ≤ zdr (la, lb) (a0, a1)) = true := by simpa using hcmp
          obtain ⟨c0, c1, f0, f1⟩ := hT0.below hbc7;have S := set2 (.int .i64 10) (.int .i64 (k : Int)) c0 c1;go_wp2;exact bodyPost_ret (v := .agg #[.int .i64 10, .int .i64 (k : Int)]) (by simp [results, Tryz.results29, go_sem, S.1, S.2]) rfl ⟨by rw [hr.out, hres.out], zai _ _ (b0.trans (hbc7.mono b0.size)) (by omega)⟩
         ·have hno := Lib.hid (show ¬ (0 < k ∧ 0 ≤ zdr (zda l k) (wid (a0, a1, a2, d, e, m))) by rw [hla.out]; exact fun hh => hcmp hh.2);have e10 : decide (0 ≤ zdr (la, lb) (a0, a1)) = false := by simpa using hcmp
          have hc2 : zdr (la, lb) (a0, a1) < 0 := by omega
          have g0 := (hbx.below hbc7).c0;have g1 := (hbx.below hbc7).c1;simp only at g0 g1;cases hin : zco (a0, a1) f h with
          | true =>
           have hnx := Lib.hid (BAt.succ hat.out hX.out hwr0.out hno.out hin);have hls := Lib.hid (zep hX.out);go_wp2_with fail;refine (zgk a0 a1 n n' c c' A A' f h _ (ef0.grow hbc7) (eh0.grow hbc7) nf nh).mono ?_;rintro r w8 ⟨rfl, hb8⟩;rw [hin];clear hin g0 g1;obtain ⟨t0, t1, t2, t3⟩ := T7.below hb8;have q2 := (hb8.cell (cell_lt q2)).trans q2;have q3 := (hb8.cell (cell_lt q3)).trans q3;have hk8 := hk7.trans (hb8.mono hk7.size);have SL := set2 (.int .i64 a0) (.int .i64 a1) t0 t1;go_wp2;go_roundw
           case rel => exact ⟨k + 1, by omega, by go_num, hnx, by rw [hls.out]; exact ⟨SL.1, SL.2, by simpa using t2, by simpa using t3⟩, zai _ _ (hbel.trans (hk8.mono hB)) (Nat.le_refl _)⟩
           case measure => simp [intOf]; omega
          | false =>
           have hres := Lib.hid (BAt.state hat.out hX.out hwr0.out hno.out hin);go_wp2_with fail;refine (zgk a0 a1 n n' c c' A A' f h _ (ef0.grow hbc7) (eh0.grow hbc7) nf nh).mono ?_;rintro r w8 ⟨rfl, hb8⟩;rw [hin];clear hin g0 g1;have hbc8 := hbc7.trans (hb8.mono hbc7.size);obtain ⟨c0, c1, f0, f1⟩ := hT0.below hbc8;have S := set2 (.int .i64 6) (.int .i64 (k : Int)) c0 c1;go_wp2;exact bodyPost_ret (v := .agg #[.int .i64 6, .int .i64 (k : Int)]) (by simp [results, Tryz.results29, go_sem, S.1, S.2]) rfl ⟨by rw [hr.out, hres.out], zai _ _ (b0.trans (hbc8.mono b0.size)) (by omega)⟩
       ·have hres := Lib.hid (BAt.bad hat.out hX.out hz);generalize hwr : zao (a0, a1, a2, d, e, m) = q at *;have hWR := Lib.hid hwr;have e7 : (q != 0) = true := by simpa using hz
        clear hwr hz;go_wp2_with fail;refine (zdj (a0, a1, a2, d, e, m) _).mono ?_;rintro r w6 ⟨rfl, hb6⟩;rw [hWR.out];have hk6 := kb.trans (hb6.mono kb.size);have hbc6 := hbc.trans (hk6.mono hbc.size);obtain ⟨c0, c1, f0, f1⟩ := hT0.below hbc6;have S := set2 (.int .i64 q) (.int .i64 (k : Int)) c0 c1;go_wp2;exact bodyPost_ret (v := .agg #[.int .i64 q, .int .i64 (k : Int)]) (by simp [results, Tryz.results29, go_sem, S.1, S.2]) rfl ⟨by rw [hr.out, hres.out], zai _ _ (b0.trans (hbc6.mono b0.size)) (by omega)⟩
      ·obtain rfl : k = n'' := by omega
       have hres := Lib.hid (BAt.all hat.out (by omega));go_wp2_with fail;refine (zdy _).mono ?_;rintro r w6 ⟨rfl, hb6⟩;have hbc6 := hbc.trans (hb6.mono hbc.size);obtain ⟨c0, c1, f0, f1⟩ := hT0.below hbc6;have S := set2 (.int .i64 0) (.int .i64 (-1)) c0 c1;go_wp2;exact bodyPost_ret (v := .agg #[.int .i64 0, .int .i64 (-1)]) (by simp [results, Tryz.results29, go_sem, S.1, S.2]) rfl ⟨by rw [hr.out, hres.out], zai _ _ (b0.trans (hbc6.mono b0.size)) (by omega)⟩
  ·have hr := Lib.hid (zyp (l := l) h1 h2);have e1 : ((zaf h).1 == 0) = false := by simpa using h2
   rw [e1];clear e1 h1 h2;go_wp2_with fail;refine (zbi _ _).mono ?_;rintro r w5 ⟨rfl, hbx⟩;have hbw5 := hb14.trans (hbx.mono hb14.size);obtain ⟨c0, c1, f0, f1⟩ := hT0.below hbw5;have S := set2 (.int .i64 (zaf h).1) (.int .i64 (-1)) c0 c1;go_wp2;exact bodyPost_ret (v := .agg #[.int .i64 (zaf h).1, .int .i64 (-1)]) (by simp [results, Tryz.results29, go_sem, S.1, S.2]) rfl ⟨by rw [hr.out], zai _ _ (b0.trans (hbw5.mono b0.size)) (by omega)⟩
 ·have hr := Lib.hid (zyd (h := h) (l := l) h1);have e1 : ((zaf f).1 == 0) = false := by simpa using h1
  rw [e1];clear e1 h1;go_wp2_with fail;refine (zbi _ _).mono ?_;rintro r w3 ⟨rfl, hbx⟩;have hbw3 := hb12.trans (hbx.mono hb12.size);obtain ⟨c0, c1, f0, f1⟩ := hT0.below hbw3;have S := set2 (.int .i64 (zaf f).1) (.int .i64 (-1)) c0 c1;go_wp2;exact bodyPost_ret (v := .agg #[.int .i64 (zaf f).1, .int .i64 (-1)]) (by simp [results, Tryz.results29, go_sem, S.1, S.2]) rfl ⟨by rw [hr.out], zai _ _ (b0.trans (hbw3.mono b0.size)) (by omega)⟩
end Go.Proofs.YtkejlnjnoiidnaaGreatDoor
end
