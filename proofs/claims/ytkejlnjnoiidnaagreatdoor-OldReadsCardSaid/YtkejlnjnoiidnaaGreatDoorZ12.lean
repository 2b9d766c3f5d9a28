/- body.Read says what bread says. Printed by gen_bodyread.py out of bodyread.src.

lz.Read says what lread says. Printed by gen_lzread.py out of lzread.src.

TokensRead of the reference says what lread says. Printed by gen_rlzread.py out of rlzread.src.

Swell: the text that bytes are. Tokens that were read fit.

frame.Write says what frameOf says.

frame.Read says what unframe says. -/
import Derived.Test.YtkejlnjnoiidnaaGreatDoorZ10
import Derived.Test.YtkejlnjnoiidnaaGreatDoorZ11
import Derived.Test.YtkejlnjnoiidnaaGreatDoorZ5
import Derived.Test.YtkejlnjnoiidnaaGreatDoorZ7b
import Derived.Test.YtkejlnjnoiidnaaGreatDoorZ3
import Derived.Test.YtkejlnjnoiidnaaGreatDoorZ2
import Derived.Test.YtkejlnjnoiidnaaGreatDoorZ6
import Derived.Test.YtkejlnjnoiidnaaGreatDoorZ1
import Derived.Deep.RegionHeld3
import Derived.Deep.RegionWith
import Derived.Test.YtkejlnjnoiidnaaGreatDoorZ8
import Derived.Test.YtkejlnjnoiidnaaGreatDoorZ9
section
namespace Go.Proofs.YtkejlnjnoiidnaaGreatDoor
set_option linter.unusedSimpArgs false
set_option linter.unusedVariables false
open Go.RowKit As
theorem BT.new (w : World) (t1 t2 : TypeId) : BT ((w.alloc (.cells #[nilS, nilS, nilS] t1)).alloc (.cells #[.nilIface] t2)) w.heap.size (w.heap.size + 1) nilS nilS nilS .nilIface := by
 generalize hW : w.alloc (.cells #[nilS, nilS, nilS] t1) = w1
 have b2 := below1 w1 (.cells #[.nilIface] t2)
 have l1 : w1.heap.size = w.heap.size + 1 := by rw [← hW]; simp
 have o : ∀ i, i < 3 → w1.cell? ⟨w.heap.size, i, none⟩ = some nilS := by
  intro i hi
  rw [← hW, World.cell?_alloc_new]
  have : i = 0 ∨ i = 1 ∨ i = 2 := by omega
  rcases this with rfl | rfl | rfl <;> rfl
 have g : ∀ i, (w1.alloc (.cells #[.nilIface] t2)).frozen? ⟨w.heap.size, i, none⟩ = false := by
  intro i
  rw [b2.frozen (p := ⟨w.heap.size, i, none⟩) (by simp; omega), ← hW]; simp
 have e : (w1.alloc (.cells #[.nilIface] t2)).cell? ⟨w.heap.size + 1, 0, none⟩ = some .nilIface := by rw [← l1, World.cell?_alloc_new]; rfl
 exact ⟨(b2.cell (cell_lt (o 0 (by omega)))).trans (o 0 (by omega)), (b2.cell (cell_lt (o 1 (by omega)))).trans (o 1 (by omega)), (b2.cell (cell_lt (o 2 (by omega)))).trans (o 2 (by omega)), e, g 0, g 1, g 2, by rw [← l1]; simp⟩
theorem cells_of (w : World) (cs : Array Value) (t : TypeId) : ∀ j u, cs.toList[j]? = some u → (w.alloc (.cells cs t)).cell? ((⟨w.heap.size, 0, none⟩ : Addr).add j) = some u := by
 intro j u hj
 have e : (⟨w.heap.size, 0, none⟩ : Addr).add j = ⟨w.heap.size, j, none⟩ := by unfold Addr.add; split <;> simp_all
 rw [e, World.cell?_alloc_new]
 simpa using hj
theorem raw_eq {h : List Ent} {T : List ByteArray} {tm n i x kd : Nat} {r t : Int} {b : ByteArray} (h1 : h[i]? = some (r, t)) (h2 : T[x]? = some b) : raw h T (tm + n) i x kd = ((tm : Int) + (n : Int), r, (kd : Int), b, ⟨#[]⟩, 0) := by
 unfold raw
 rw [List.getD, h1, List.getD, h2]
 simp
theorem ErrIs.setNil {w : World} {v u : Value} {e p : Int} {ad : Addr} (h : ErrIs w v e p) (hc : w.cell? ad = some .nilIface) : ErrIs (w.setCell ad u) v e p := by
 cases h with
 | none => exact .none
 | bare _ he => exact .bare _ he
 | at_ b o _ _ he h0 h1 =>
  refine .at_ b o _ _ he ?_ ?_
  ·rw [World.cell?_setCell_other _ _ _ _ (by intro h; rw [h, h0] at hc; cases hc)]; exact h0
  ·rw [World.cell?_setCell_other _ _ _ _ (by intro h; rw [h, h1] at hc; cases hc)]; exact h1
theorem berr_nil {w : World} {v : Value} {e p : Int} (h : ErrIs w v e p) (h0 : e = 0) : v = .nilIface := by
 subst h0
 exact (ErrIs.zero h).1
theorem berr_some {w : World} {v : Value} {e p : Int} (h : ErrIs w v e p) (h0 : e ≠ 0) : ∃ t u, v = .iface t u := by
 cases h with
 | none => exact absurd rfl h0
 | bare _ _ => exact ⟨_, _, rfl⟩
 | at_ _ _ _ _ _ _ _ => exact ⟨_, _, rfl⟩
theorem ints_of {w : World} {B n : Nat} {A : Option Addr} {l : List Int} (h : Sl w B 1 A n (intsV l)) : Sl w B 1 A n (l.flatMap fun x => [Value.int .i64 x]) := by
 unfold intsV at h
 rw [List.map_eq_flatMap] at h
 exact h
theorem strs_of {w : World} {B n : Nat} {A : Option Addr} {l : List ByteArray} (h : Sl w B 1 A n (l.map Value.string)) : Sl w B 1 A n (l.flatMap fun x => [Value.string x]) := by
 rw [List.map_eq_flatMap] at h
 exact h
theorem own_cap {w : World} {base : Nat} {e : TypeId} {size n m c : Nat} {A : Option Addr} {xs : List Value} (h : w.ownsRow base e size (.slice A n c) m xs) : n ≤ c := by
 rcases h.2 with ⟨hv, _⟩ | ⟨g, cap, cur, hv, _, _, hc, _⟩
 ·injection hv with _ h1 h2; omega
 ·injection hv with _ h1 h2; omega
theorem bdInt : (Tryz.prog.info? 3).map (fun i => (i.zero, i.size, i.bytes)) = some (some (.int .i64 0), 1, 8) := by kernel_rfl
theorem bdWr : (Tryz.prog.info? 53).map (fun i => (i.zero, i.size, i.bytes)) = some (some (.agg #[.int .i64 0, .int .i64 0, .int .i64 0, .string ⟨#[]⟩, .string ⟨#[]⟩, .int .i64 0]), 6, 64) := by kernel_rfl
theorem ents_read {s : ByteArray} {l : List Ent} {n : Nat} {e : Int} (hv : vread s = (l, n, e)) : Hid (l.length ≤ 16 ∧ ∀ y ∈ l, entFits y) := by
 have h := vread_right (s := s)
 rw [hv] at h
 refine Lib.hid ⟨vright_ok_len h, fun y hy => ?_⟩
 have := (vright_ok h).1 y hy
 unfold entBad at this
 unfold entFits
 omega
def fiV (s : ByteArray) (R p4 : Nat) (tmn r2 : Int) (kd : Nat) (x3 : ByteArray) (y : Wr) (nf : Nat) (ef : Int) (g : Nat) : Nat → Value
 | 0 => .agg #[.int .i64 tmn, .int .i64 r2, .int .i64 (kd : Int), .string x3, .string ⟨#[]⟩, .int .i64 0]
 | 1 => .string s
 | 2 => .pointer (some ⟨R, 0, none⟩)
 | 3 => .pointer (some ⟨R, 0, none⟩)
 | 4 => .pointer (some ⟨R, 1, none⟩)
 | 5 => .int .i64 (p4 : Int)
 | 6 => .string (s.extract p4 s.size)
 | 7 => fillV (y, nf, ef)
 | 8 => fillV (y, nf, ef)
 | 9 => wrV y.1 y.2.1 y.2.2.1 y.2.2.2.1 y.2.2.2.2.1 y.2.2.2.2.2
 | 10 => .int .i64 (nf : Int)
 | 11 => errV ef
 | 12 => .pointer (some ⟨g, 0, none⟩)
 | 14 => .int .i64 (nf : Int)
 | 15 => errV ef
 | _ => undef
/-- While a write is filled. -/
structure FI (w : World) (y : Wr) (gb : Nat) (l12 l13 : Bool) (wz : World) : Prop where
 bel : Below w.heap.size w wz
 ge : l12 = true → w.heap.size ≤ gb ∧ gb < wz.heap.size
 free : l12 = true → Free6 wz gb
 no : l12 = true → l13 = false → WrAt wz gb 0 0 0 ⟨#[]⟩ ⟨#[]⟩ 0
 yes : l13 = true → WrAt wz gb y.1 y.2.1 y.2.2.1 y.2.2.2.1 y.2.2.2.2.1 y.2.2.2.2.2
theorem FI.grow {w wz wn : World} {y : Wr} {gb : Nat} {l12 l13 : Bool} (h : FI w y gb l12 l13 wz) (hb : Below wz.heap.size wz wn) : FI w y gb l12 l13 wn :=
 ⟨h.bel.trans (hb.mono h.bel.size), fun a => ⟨(h.ge a).1, Nat.lt_of_lt_of_le (h.ge a).2 hb.size⟩, fun a => (h.free a).below (h.ge a).2 hb, fun a b => (h.no a b).below hb, fun a => (h.yes a).below hb⟩
theorem FI.make {w wz : World} {y : Wr} {gb : Nat} (h : FI w y gb false false wz) : FI w y wz.heap.size true false (wz.alloc (wrO 0 0 0 ⟨#[]⟩ ⟨#[]⟩ 0)) :=
 ⟨h.bel.alloc h.bel.size _, fun _ => ⟨h.bel.size, by simp⟩, fun _ => Free6.new _ _ _ _ _ _ _, fun _ _ => WrAt.new _ _ _ _ _ _ _, fun a => by cases a⟩
theorem FI.store {w wz : World} {y : Wr} {gb : Nat} (h : FI w y gb true false wz) : FI w y gb true true (put6 wz gb y.1 y.2.1 y.2.2.1 y.2.2.2.1 y.2.2.2.2.1 y.2.2.2.2.2) :=
 ⟨below_put6 h.bel (h.ge rfl).1, fun _ => ⟨(h.ge rfl).1, by unfold put6; simpa using (h.ge rfl).2⟩, fun _ => ((((((h.free rfl).set _ _ _).set _ _ _).set _ _ _).set _ _ _).set _ _ _).set _ _ _, fun _ b => (by cases b), fun _ => (h.no rfl rfl).put⟩
set_option maxHeartbeats 16000000 in
set_option maxRecDepth 100000 in
theorem bodyread_any (s : ByteArray) (w : World) (hs : s.size ≤ 1000000) (hg : Handle w) :
  Calls Tryz.prog 57 #[.string s] w fun e w' => BdEnd s w e w' := by
 obtain ⟨i0, hi, hz0, hz1, hz2⟩ := info_parts strInfo
 obtain ⟨j0, hj, hy0, hy1, hy2⟩ := info_parts bdInt
 obtain ⟨k0, hk0, hx0, hx1, hx2⟩ := info_parts bdWr
 have hmf : ∀ (fn : Fn) (first cap : Array Value) (w : World), (Instr.makeFunc fn first cap).run Tryz.prog w = .ok (.func fn first cap) w := fun _ _ _ _ => rfl
 have hR := BT.new w 25 33
 have b0 := (below1 w (Obj.cells #[nilS, nilS, nilS] 25)).alloc (by simp) (.cells #[.nilIface] 33)
 by_cases hbig : 20000 < s.size
 ·have d0 : decide (20000 < s.size) = true := by simpa using hbig
  have d0' : decide ((20000 : Int) < (s.size : Int)) = true := by simp only [decide_eq_true_eq]; omega
  have hV := Lib.hid (bread_big hbig)
  go_enter Tryz.func57, Tryz.ntmps57
  go_wp2_with fail
  exact bodyPost_ret (v := .tuple #[noBat.v, .iface 27 (.int .i64 4)]) (by simp [results, Tryz.results57, go_sem, BatArg.v]) rfl ⟨noBat, _, rfl, noBat_is _, by rw [hV.out], ⟨Nat.le_refl _, Nat.le_refl _⟩, by rw [hV.out]; exact .bare 4 (by omega), (below1 w _).alloc (by simp) _⟩
 ·have d0 : decide (20000 < s.size) = false := by simpa using hbig
  have d0' : decide ((20000 : Int) < (s.size : Int)) = false := by simp only [decide_eq_false_iff_not]; omega
  have HB := Lib.hid hbig
  clear hbig
  go_enter_defers Tryz.func57, Tryz.ntmps57
  go_wp2_with fail
  have bR := below1 ((w.alloc (.cells #[nilS, nilS, nilS] 25)).alloc (.cells #[.nilIface] 33)) (.cells #[.string s, .int .i64 0] 147)
  have hSc : Sc (((w.alloc (.cells #[nilS, nilS, nilS] 25)).alloc (.cells #[.nilIface] 33)).alloc (.cells #[.string s, .int .i64 0] 147)) (w.heap.size + 1 + 1) s 0 := by
   have l2 : ((w.alloc (.cells #[nilS, nilS, nilS] 25)).alloc (.cells #[.nilIface] 33)).heap.size = w.heap.size + 1 + 1 := by simp
   rw [← l2]
   generalize (w.alloc (.cells #[nilS, nilS, nilS] 25)).alloc (.cells #[.nilIface] 33) = W2
   exact ⟨by rw [World.cell?_alloc_new]; rfl, by rw [World.cell?_alloc_new]; rfl, by simp⟩
  have hR1 := hR.below bR
  have b1 := b0.trans (bR.mono b0.size)
  have hsz : (((w.alloc (.cells #[nilS, nilS, nilS] 25)).alloc (.cells #[.nilIface] 33)).alloc (.cells #[.string s, .int .i64 0] 147)).heap.size = w.heap.size + 1 + 1 + 1 := by simp
  clear hR b0 bR
  obtain ⟨O, hO⟩ : ∃ O, O = w.heap.size := ⟨_, rfl⟩
  have hO' := Lib.hid hO
  generalize ((w.alloc (.cells #[nilS, nilS, nilS] 25)).alloc (.cells #[.nilIface] 33)).alloc (.cells #[.string s, .int .i64 0] 147) = W at *
  have S : BS w w.heap.size (w.heap.size + 1) (w.heap.size + 1 + 1) W.heap.size := ⟨by omega, by omega, by omega, by omega, by omega, by omega, by omega, by omega, by omega⟩
  clear hO hO'
  generalize hE : w.heap.size + 1 = E at *
  generalize hR : E + 1 = R at *
  generalize hB : W.heap.size = B at *
  clear hE hR hsz
  have HL : BL w w.heap.size E R B s 0 nilS nilS nilS nilS nilS [] [] [] [] [] W := ⟨hSc, hR1, World.ownsRow_nil _ _ _ _, World.ownsRow_nil _ _ _ _, World.ownsRow_nil _ _ _ _, World.ownsRow_nil _ _ _ _, World.ownsRow_nil _ _ _ _, b1, Nat.le_of_eq hB.symm⟩
  clear hSc hR1 b1 O
  refine (vector_any s 0 R W hs (Nat.zero_le _) (hg.below HL.bel) HL.sc).mono ?_
  rintro r w1 ⟨f, n1, e, hv, hx⟩
  rw [show s.extract 0 s.size = s from ByteArray.extract_zero_size] at hv
  rcases hx with ⟨rfl, hn1, v0, u1, rfl, hT1, hb1, rfl⟩ | ⟨he, rfl, hb1⟩
  ·have HX0 := Lib.hid (bread_go HB.out hv)
   have HF := ents_read hv
   have HL1 := (HL.below hb1).setR S (0 + n1)
   have T1 := own_set (s := R) (j := 1) (.int .i64 ((0 + n1 : Nat) : Int)) (own_less hT1 (Nat.le_of_eq hB.symm)) S.r
   clear hv hT1 hb1 HL
   rw [Nat.zero_add] at HL1 T1 hn1 ⊢
   generalize u1.setCell ⟨R, 1, none⟩ (.int .i64 (n1 : Int)) = W1 at *
   go_wp2_with fail
   refine (vector_any s n1 R W1 hs hn1 (hg.below HL1.bel) HL1.sc).mono ?_
   rintro r w1 ⟨h, n2, e, hv, hx⟩
   rcases hx with ⟨rfl, hn2, v1, u2, rfl, hT2, hb2, rfl⟩ | ⟨he, rfl, hb1⟩
   ·have HX1 := Lib.hid (bhave_go HX0.out hv)
    have HH := ents_read hv
    have HL2 := (HL1.below hb2).setR S (n1 + n2)
    have T1' := own_set (s := R) (j := 1) (.int .i64 ((n1 + n2 : Nat) : Int)) (own_below T1 hb2) S.r
    have T2 := own_set (s := R) (j := 1) (.int .i64 ((n1 + n2 : Nat) : Int)) (own_less hT2 HL1.sz) S.r
    clear hv hT2 hb2 HL1 T1 HX0
    generalize u2.setCell ⟨R, 1, none⟩ (.int .i64 ((n1 + n2 : Nat) : Int)) = W2 at *
    generalize n1 + n2 = p at *
    have HL3 := HL2.vecs S T1' T2
    obtain ⟨A1, c1, rfl⟩ := own_form T1'
    obtain ⟨A2, c2, rfl⟩ := own_form T2
    obtain ⟨k0, k1, _, _, k4, k5, _, _⟩ := HL2.bt
    clear T1' T2 HL2 hn1
    go_wp2_with fail
    clear k0 k1 k4 k5
    generalize (W2.setCell ⟨w.heap.size, 0, none⟩ (.slice A1 f.length c1)).setCell ⟨w.heap.size, 1, none⟩ (.slice A2 h.length c2) = W3 at *
    refine (number_any s p R 60 _ hs hn2 (by omega) (hg.below HL3.bel) HL3.sc).mono ?_
    rintro r w1 ⟨q, m, k, e, hv, hx⟩
    rcases hx with ⟨rfl, hm, _, _, hk, rfl, rfl⟩ | ⟨he, rfl, hb1⟩
    ·have HX2 := Lib.hid (btab_go HX1.out hv)
     have HL4 := HL3.step S q (p + k)
     clear hv HX1 HL3
     generalize (W3.drewN q).setCell ⟨R, 1, none⟩ (.int .i64 ((p + k : Nat) : Int)) = W4 at *
     generalize p + k = p at *
     go_wp2
     clear q hn2
     go_loopw [6, 7, 8, 9, 37] (fun tv _ _ _ iv wr => ∃ (d c p : Nat) (T : List ByteArray), iv = .int .i64 (d : Int) ∧ d + c = m ∧ p ≤ s.size ∧ Hid (bread s = bkeys s f h c p T) ∧ (T.length = d ∧ Hid (∀ x ∈ T, x.size ≤ maxLen)) ∧ BL w w.heap.size E R B s p (.slice A1 f.length c1) (.slice A2 h.length c2) nilS tv nilS f h [] T [] wr) (fun _ _ _ _ iv _ => m - (intOf iv).toNat)
     case atStart => exact ⟨0, m, p, [], rfl, by omega, hk, HX2, ⟨rfl, Lib.hid (fun _ h => by cases h)⟩, HL4⟩
     case round =>
      obtain ⟨d, c, p, T, rfl, hdc, hp, HX3, ⟨hTd, HTs⟩, HL⟩ := hrel
      clear HL4 HX2 hk
      have hl : (s.extract p s.size).size ≤ maxLen := by rw [ByteArray.size_extract]; unfold maxLen; omega
      have i1 : (0 : Int) ≤ (p : Int) := by omega
      have i2 : (p : Int) ≤ (s.size : Int) := by omega
      have hd60 : d ≤ 60 := by omega
      have gR := hg.below HL.bel
      obtain ⟨k0, k1, k2⟩ := HL.sc
      by_cases hlt : d < m
      ·have t0 : decide ((d : Int) < (m : Int)) = true := by simp only [decide_eq_true_eq]; omega
       have t0' : decide (d < m) = true := by simpa using hlt
       obtain ⟨c', hc'⟩ : ∃ c', c = c' + 1 := ⟨c - 1, by omega⟩
       have hdc' : (d + 1) + c' = m := by omega
       have HX4 := Lib.hid (show bread s = bkeys s f h (c' + 1) p T by rw [← hc']; exact HX3.out)
       obtain ⟨⟨b, n, e⟩, hu⟩ : ∃ x, unspan (s.extract p s.size) = x := ⟨_, rfl⟩
       have hfar : p + n ≤ s.size := by
        have h2 : (unspan (s.extract p s.size)).2.1 ≤ (s.extract p s.size).size := by
         rcases unspan_says (s.extract p s.size) with h | ⟨e, h, _⟩
         ·exact h.2.2.1
         ·rw [h]; exact Nat.zero_le _
        rw [hu, ByteArray.size_extract] at h2
        simp only at h2
        omega
       have HBs := Lib.hid (show b.size ≤ maxLen by
        have h2 : (unspan (s.extract p s.size)).1.size ≤ 2000 := by
         rcases unspan_says (s.extract p s.size) with h | ⟨e, h, _⟩
         ·exact h.2.2.2.2.1
         ·rw [h]; exact Nat.zero_le _
        rw [hu] at h2
        unfold maxLen; exact Nat.le_trans h2 (by decide))
       have HU := Lib.hid hu
       clear hu hc' HX3 hdc
       go_wp2_with fail
       refine (spanget_any (s.extract p s.size) wr hl gR).mono ?_
       rintro r w1 ⟨rfl, hb1⟩
       rw [HU.out]
       simp only
       have HL1 := HL.below hb1
       clear k0 k1 k2 hb1 HL
       by_cases he : e = 0
       ·subst he
        rw [errV_zero]
        go_wp2_with fail
        refine (check_nil R _).mono ?_
        rintro r w2 ⟨rfl, rfl⟩
        have HX5 := Lib.hid (bkeys_go HX4.out HU.out)
        have hsz1 := HL1.sz
        have HA := HL1.below (below1 w1 (.cells #[.string b] 9))
        have w1' : IntKind.i64.wrap ((p : Int) + (n : Int)) = ((p + n : Nat) : Int) := IntWalk.i64_in _ (by omega)
        have w2' : IntKind.i64.wrap ((d : Int) + 1) = ((d + 1 : Nat) : Int) := IntWalk.i64_in _ (by omega)
        go_wp2_with (first
         | (at_builtin; refine wpList_append_own _ rfl (.tmp 53) (.tmp 55) 116 rfl B 9 i0 (.string ⟨#[]⟩) 1 16 Tryz.underlying116 hi hz0 hz1 hz2 rfl (by decide) u6 T.length (T.map Value.string) rfl HA.t ⟨w1.heap.size, 0, none⟩ 1 1 [.string b] rfl rfl (cells_new1 _ _ _) (by intro u hu; simp at hu; subst hu; rfl) (by unfold maxLen; omega) (by omega) (by simp; omega) ?_; intro v3 w3 hT3 hg3 _; have HL2 := HA.growT S hg3 (ownStr_snoc rfl hT3); have HC := HL2.sc; obtain ⟨k0, k1, k2⟩ := HC))
        have HL3 := HL2.setR S (p + n)
        go_wp2
        go_roundw
        case rel => exact ⟨d + 1, c', p + n, T ++ [b], by go_num, hdc', hfar, HX5, ⟨by simp [hTd], Lib.hid (fun x hx => by rcases List.mem_append.1 hx with hx | hx; exact HTs.out x hx; rw [List.mem_singleton.1 hx]; exact HBs.out)⟩, by rw [show ((p : Int) + (n : Int)) = ((p + n : Nat) : Int) by omega]; exact HL3⟩
        case measure => simp [intOf]; omega
       ·have HV := Lib.hid (bkeys_bad HX4.out HU.out he)
        have HE := Lib.hid he
        go_wp2_with fail
        refine (check_err (errV_is _ e) he (hg.below HL1.bel) HL1.sc).mono ?_
        rintro r w2 ⟨rfl, hb2⟩
        have hZ := HL1.below hb2
        go_wp2
        exact bdoor_bad HV.out HE.out hZ.bt S.oe S.lo S.le hZ.bel rfl rfl
      ·have t0 : decide ((d : Int) < (m : Int)) = false := by simp only [decide_eq_false_iff_not]; omega
       have t0' : decide (d < m) = false := by simpa using hlt
       obtain rfl : c = 0 := by omega
       clear hlt hdc i1 i2 hl gR k0 k1 k2
       go_wp2_with fail
       refine (number_any s p R 60 _ hs hp (by omega) (hg.below HL.bel) HL.sc).mono ?_
       rintro r w1 ⟨q, m2, k, e, hv, hx⟩
       rcases hx with ⟨rfl, hm2, _, _, hk, rfl, rfl⟩ | ⟨he, rfl, hb1⟩
       ·have HX4 := Lib.hid (bkeys_end HX3.out hv)
        have HL4 := HL.step S q (p + k)
        clear hv HX3 HL
        generalize (wr.drewN q).setCell ⟨R, 1, none⟩ (.int .i64 ((p + k : Nat) : Int)) = W4 at *
        generalize p + k = p at *
        go_wp2
        obtain ⟨A3, c3, rfl⟩ := own_form HL4.t
        have hT60 : T.length ≤ 60 := by omega
        clear q hTd
        go_loopw [10, 11, 12, 13, 14, 15, 16, 17, 18, 69] (fun av mv _ _ _ _ _ _ _ iv wr => ∃ (d c p tm : Nat) (a : List Int) (ws : List Wr) (v2 : Value), iv = .int .i64 (d : Int) ∧ mv = .int .i64 (tm : Int) ∧ d + c = m2 ∧ tm ≤ 1099511627776 ∧ p ≤ s.size ∧ Hid (bread s = bws s f h T c p tm a ws) ∧ Hid (a.length = d ∧ ws.length = d ∧ ∀ x ∈ a, 0 ≤ x ∧ x ≤ 60) ∧ BL w w.heap.size E R B s p (.slice A1 f.length c1) (.slice A2 h.length c2) v2 (.slice A3 T.length c3) av f h ws T a wr) (fun _ _ _ _ _ _ _ _ _ iv _ => m2 - (intOf iv).toNat)
        case atStart => exact ⟨0, m2, p, 0, [], [], nilS, rfl, rfl, by omega, by omega, hk, HX4, Lib.hid ⟨rfl, rfl, fun _ h => by cases h⟩, HL4⟩
        case round =>
         obtain ⟨d, c, p, tm, a, ws, v2, rfl, rfl, hdc, htm, hp, HX5, HAr, HL⟩ := hrel
         clear HL4 HX4 hk
         have i1 : (0 : Int) ≤ (p : Int) := by omega
         have i2 : (p : Int) ≤ (s.size : Int) := by omega
         have hd60 : d ≤ 60 := by omega
         have gR := hg.below HL.bel
         by_cases hlt : d < m2
         ·have t0 : decide ((d : Int) < (m2 : Int)) = true := by simp only [decide_eq_true_eq]; omega
          have t0' : decide (d < m2) = true := by simpa using hlt
          obtain ⟨c', hc'⟩ : ∃ c', c = c' + 1 := ⟨c - 1, by omega⟩
          have hdc' : (d + 1) + c' = m2 := by omega
          have HX6 := Lib.hid (show bread s = bws s f h T (c' + 1) p tm a ws by rw [← hc']; exact HX5.out)
          clear hc' HX5 hdc
          go_wp2_with fail
          refine (kind_any s p R wr hs hp gR HL.sc).mono ?_
          rintro r w1 (⟨hend, rfl, hb1⟩ | ⟨hps, hbad, rfl, hb1⟩ | ⟨hps, hok, rfl, q, rfl⟩)
          ·have HV := Lib.hid (bws_bad HX6.out (wone_end hend) (by omega))
           have hZ := HL.below hb1
           go_wp2
           exact bdoor_bad HV.out (by omega) hZ.bt S.oe S.lo S.le hZ.bel rfl rfl
          ·have HV := Lib.hid (bws_bad HX6.out (wone_kind (Nat.not_le.2 hps) hbad) (by omega))
           have hZ := HL.below hb1
           go_wp2
           exact bdoor_bad HV.out (by omega) hZ.bt S.oe S.lo S.le hZ.bel rfl rfl
          ·have HO := Lib.hid (wone_go (h := h) (T := T) (tm := tm) (Nat.not_le.2 hps) hok)
           have HL1 := HL.step S q (p + 1)
           have hkd := byteOf_lt s p
           clear hok HL
           generalize (wr.drewN q).setCell ⟨R, 1, none⟩ (.int .i64 ((p + 1 : Nat) : Int)) = W5 at *
           obtain ⟨kd, hkd'⟩ : ∃ kd, kd = byteOf s p := ⟨_, rfl⟩
           rw [← hkd'] at HO hkd ⊢
           have HKD := Lib.hid hkd'
           clear hkd'
           have HG := HL1.newG (0, 0, (kd : Int), ⟨#[]⟩, ⟨#[]⟩, 0)
           have k1 := HG.b.sc.c1
           go_wp2_with fail
           clear HL1 k1 hkd
           generalize W5.alloc (wrO 0 0 (kd : Int) ⟨#[]⟩ ⟨#[]⟩ 0) = W6 at *
           generalize W5.heap.size = g at *
           generalize hp1 : p + 1 = p1 at *
           have HP1 := Lib.hid hp1
           have hp1s : p1 ≤ s.size := by omega
           have ep1 : (p : Int) + 1 = (p1 : Int) := by omega
           rw [ep1]
           clear hp1 hps ep1 i1 i2
           refine (number_any s p1 R 1099511627776 W6 hs hp1s (by omega) (hg.below HG.b.bel) HG.b.sc).mono ?_
           rintro r w1 ⟨q1, n1', k1', e, hv, hx⟩
           rcases hx with ⟨rfl, hn, _, _, hk1, rfl, rfl⟩ | ⟨he, rfl, hb1⟩
           ·have HG1 := HG.step S q1 (p1 + k1')
            have HVt := Lib.hid hv
            have wt : IntKind.i64.wrap ((tm : Int) + (n1' : Int)) = ((tm + n1' : Nat) : Int) := IntWalk.i64_in _ (by omega)
            clear hv HG
            generalize (W6.drewN q1).setCell ⟨R, 1, none⟩ (.int .i64 ((p1 + k1' : Nat) : Int)) = W7 at *
            by_cases hov : 1099511627776 < tm + n1'
            ·have t1 : decide ((1099511627776 : Int) < (tm : Int) + (n1' : Int)) = true := by simp only [decide_eq_true_eq]; omega
             have t1' : decide (1099511627776 < tm + n1') = true := by simpa using hov
             have HV := Lib.hid (bws_bad HX6.out (HO.out.trans (wtime_over HVt.out hov)) (by omega))
             have HS := HG1.setR S p1
             have HC := HG1.b.sc
             obtain ⟨k0, k1, k2⟩ := HC
             go_wp2_with fail
             refine (check_err (.bare 2 (by omega)) (by omega) (hg.below HS.b.bel) HS.b.sc).mono ?_
             rintro r w2 ⟨rfl, hb2⟩
             have hZ := HS.below hb2
             go_wp2
             exact bdoor_bad HV.out (by omega) hZ.b.bt S.oe S.lo S.le hZ.b.bel rfl rfl
            ·have t1 : decide ((1099511627776 : Int) < (tm : Int) + (n1' : Int)) = false := by simp only [decide_eq_false_iff_not]; omega
             have t1' : decide (1099511627776 < tm + n1') = false := by simpa using hov
             have HO1 := Lib.hid (HO.out.trans (wtime_go HVt.out hov))
             have ht2 : tm + n1' ≤ 1099511627776 := by omega
             clear hov HO HVt
             have mH : IntKind.i64.wrap ((h.length : Int) - 1) = (h.length : Int) - 1 := IntWalk.i64_in _ (by have := HH.out.1; omega)
             have mM : (h.length : Int) - 1 ≤ 9223372036854775807 := by have := HH.out.1; omega
             have k1 := HG1.b.bt.c1
             generalize hp2 : p1 + k1' = p2 at *
             go_wp2_with fail
             clear k1
             refine (number_any s p2 R ((h.length : Int) - 1) W7 hs (by omega) mM (hg.below HG1.b.bel) HG1.b.sc).mono ?_
             rintro r w1 ⟨q2, n2', k2, e, hv, hx⟩
             rcases hx with ⟨rfl, hn2, _, _, hk2, rfl, rfl⟩ | ⟨he, rfl, hb1⟩
             ·have HG2 := HG1.step S q2 (p2 + k2)
              have HO2 := Lib.hid (HO1.out.trans (wrep_go hv))
              clear hv HG1 HO1
              generalize (W7.drewN q2).setCell ⟨R, 1, none⟩ (.int .i64 ((p2 + k2 : Nat) : Int)) = W8 at *
              have hE : Ents W8 W8.heap.size A2 h.length h := ⟨Sl.of_own HG2.b.h, HH.out.2⟩
              obtain ⟨b2, o2, r2, t2, hA2, _, hx2, _, q0, _⟩ := hE.at_ (k := n2') (by omega)
              have k1 := HG2.b.bt.c1
              rw [hA2] at k1
              have HA2 := Lib.hid hA2
              have HX2' := Lib.hid hx2
              clear hA2 hx2 hE
              have hi0 : (n2' : Int) < (h.length : Int) := by omega
              have HG3 := HG2.setG S (y := ((tm : Int) + (n1' : Int), 0, (kd : Int), ⟨#[]⟩, ⟨#[]⟩, 0)) 0 (.int .i64 ((tm : Int) + (n1' : Int))) rfl
              have HG4 := HG3.setG S (y := ((tm : Int) + (n1' : Int), r2, (kd : Int), ⟨#[]⟩, ⟨#[]⟩, 0)) 1 (.int .i64 r2) rfl
              have f0 := HG2.froz 0
              have f1 := HG3.froz 1
              have c0 : W8.cell? ⟨g, 0, none⟩ = some (.int .i64 0) := HG2.cell 0 (by omega)
              have c1' : (W8.setCell ⟨g, 0, none⟩ (.int .i64 ((tm : Int) + (n1' : Int)))).cell? ⟨g, 1, none⟩ = some (.int .i64 0) := HG3.cell 1 (by omega)
              go_wp2_with fail
              clear f0 f1 c0 c1' k1 q0 hi0 HG2 HG3
              generalize hW9 : (W8.setCell ⟨g, 0, none⟩ (.int .i64 ((tm : Int) + (n1' : Int)))).setCell ⟨g, 1, none⟩ (.int .i64 r2) = W9 at *
              generalize hp3 : p2 + k2 = p3 at *
              have mT : IntKind.i64.wrap ((T.length : Int) - 1) = (T.length : Int) - 1 := IntWalk.i64_in _ (by omega)
              go_wp2_with fail
              refine (number_any s p3 R ((T.length : Int) - 1) W9 hs (by omega) (by omega) (hg.below HG4.b.bel) HG4.b.sc).mono ?_
              rintro r w1 ⟨q3, n3, k3, e, hv, hx⟩
              rcases hx with ⟨rfl, hn3, _, _, hk3, rfl, rfl⟩ | ⟨he, rfl, hb1⟩
              ·have HG5 := HG4.step S q3 (p3 + k3)
               have HO3 := Lib.hid (HO2.out.trans (wkey_go hv))
               clear hv HG4 HO2 hW9
               generalize (W9.drewN q3).setCell ⟨R, 1, none⟩ (.int .i64 ((p3 + k3 : Nat) : Int)) = W10 at *
               generalize hp4 : p3 + k3 = p4 at *
               have ha60 : a.length ≤ 60 := by have := HAr.out.1; omega
               have hn3T : n3 < T.length := by omega
               have hn3T' : (n3 : Int) < (T.length : Int) := by omega
               have HA := HG5.below (below1 W10 (.cells #[.int .i64 (n3 : Int)] 3))
               have hsz10 := HG5.b.sz
               clear HG5
               go_wp2_with (first
                | (at_builtin; refine wpList_append_own _ rfl (.tmp 111) (.tmp 113) 117 rfl B 3 j0 (.int .i64 0) 1 8 Tryz.underlying117 hj hy0 hy1 hy2 rfl (by decide) u10 a.length (intsV a) rfl HA.b.a ⟨W10.heap.size, 0, none⟩ 1 1 [.int .i64 (n3 : Int)] rfl rfl (cells_new1 _ _ _) (by intro u hu; simp at hu; subst hu; rfl) (by unfold maxLen; omega) (by omega) (by simp; omega) ?_; intro v4 w4 hT4 hg4 _; have HG6 := HA.growA S hg4 (intsV_snoc rfl hT4); obtain ⟨b3, o3, x3, hA3, _, hx3, q3⟩ := sl1_at Value.string (l := T) (by have := Sl.of_own HG6.b.t; simpa [List.map_eq_flatMap] using this) rfl hn3T; have c3' : w4.cell? ⟨g, 3, none⟩ = some (.string ⟨#[]⟩) := HG6.cell 3 (by omega); have f3 := HG6.froz 3))
               have HG7 := HG6.setG S (y := ((tm : Int) + (n1' : Int), r2, (kd : Int), x3, ⟨#[]⟩, 0)) 3 (.string x3) rfl
               have HX3 := Lib.hid hx3
               have HA3 := Lib.hid hA3
               clear hA3 hx3 HG6 c3' f3 hT4 hg4 HA q3
               generalize w4.setCell ⟨g, 3, none⟩ (.string x3) = W11 at *
               have hp4s : p4 ≤ s.size := by omega
               have hl4 : (s.extract p4 s.size).size ≤ maxLen := by rw [ByteArray.size_extract]; unfold maxLen; omega
               obtain ⟨⟨y, nf, ef⟩, hf⟩ : ∃ z, wfill ((tm : Int) + (n1' : Int), r2, (kd : Int), x3, ⟨#[]⟩, 0) (s.extract p4 s.size) = z := ⟨_, rfl⟩
               have hfar : p4 + nf ≤ s.size := by
                have h2 := wfill_far ((tm : Int) + (n1' : Int), r2, (kd : Int), x3, ⟨#[]⟩, 0) (s.extract p4 s.size)
                rw [hf, ByteArray.size_extract] at h2
                simp only at h2
                omega
               have HFL := Lib.hid hf
               have j1 : (0 : Int) ≤ (p4 : Int) := by omega
               have j2 : (p4 : Int) ≤ (s.size : Int) := by omega
               have gW := hg.below HG7.b.bel
               clear hf
               refine Flow.wp_region_go (by kernel_rfl) (by kernel_rfl) (by kernel_rfl) 174 rfl (by kernel_rfl) (fiV s R p4 ((tm : Int) + (n1' : Int)) r2 kd x3 y nf ef) (fun gb L wz => FI W11 y gb (L 12) (L 13) wz) (fun _ _ => False) (0) (⟨(Below.refl _ _).drew, fun h => (by cases h), fun h => (by cases h), fun h => (by cases h), fun h => (by cases h)⟩) ⟨?_, ?_, ?_, ?_, ?_, ?_, ?_, ?_, ?_, ?_, ?_, ?_, ?_, ?_, ?_, ?_, trivial⟩ ?_ ?_
               ·intro gb L wz K ρ hc0 hf0 hF hO hU hcl hi hd hC hK
                have e12 : ρ (.tmp 12) = .pointer (some ⟨g, 0, none⟩) := hO 12 (by kernel_rfl)
                obtain ⟨c0, c1, c2, c3, c4, c5⟩ := HG7.at_.below hC.bel
                simp [go_sem, Flow.ylP_value, Flow.ylP_skip, Flow.ylP_enter, Flow.ylP_panic, hc0, hf0, e12, c0, c1, c2, c3, c4, c5]
                exact hK gb wz hC (fun _ _ => rfl)
               ·intro gb L wz K ρ hc0 hf0 hF hO hU hcl hi hd hC hK
                have e0 : ρ (.tmp 0) = .string s := hO 0 (by kernel_rfl)
                simp [go_sem, Flow.ylP_value, Flow.ylP_skip, Flow.ylP_enter, Flow.ylP_panic, hc0, hf0, e0]
                exact hK gb wz hC (fun _ _ => rfl)
               ·intro gb L wz K ρ hc0 hf0 hF hO hU hcl hi hd hC hK
                have e4 : ρ (.tmp 4) = .pointer (some ⟨R, 0, none⟩) := hO 4 (by kernel_rfl)
                simp [go_sem, Flow.ylP_value, Flow.ylP_skip, Flow.ylP_enter, Flow.ylP_panic, hc0, hf0, e4]
                exact hK gb wz hC (fun _ _ => rfl)
               ·intro gb L wz K ρ hc0 hf0 hF hO hU hcl hi hd hC hK
                have d2 : L 2 = true := hd ⟨2, .data⟩ (by simp) rfl
                have e123 : ρ (.tmp 123) = .pointer (some ⟨R, 0, none⟩) := hF 123 2 (by kernel_rfl) d2
                simp [go_sem, Flow.ylP_value, Flow.ylP_skip, Flow.ylP_enter, Flow.ylP_panic, hc0, hf0, e123]
                exact hK gb wz hC (fun _ _ => rfl)
               ·intro gb L wz K ρ hc0 hf0 hF hO hU hcl hi hd hC hK
                have d3 : L 3 = true := hd ⟨3, .data⟩ (by simp) rfl
                have e124 : ρ (.tmp 124) = .pointer (some ⟨R, 0, none⟩) := hF 124 3 (by kernel_rfl) d3
                simp [go_sem, Flow.ylP_value, Flow.ylP_skip, Flow.ylP_enter, Flow.ylP_panic, hc0, hf0, e124]
                exact hK gb wz hC (fun _ _ => rfl)
               ·intro gb L wz K ρ hc0 hf0 hF hO hU hcl hi hd hC hK
                have d4 : L 4 = true := hd ⟨4, .data⟩ (by simp) rfl
                have e125 : ρ (.tmp 125) = .pointer (some ⟨R, 1, none⟩) := hF 125 4 (by kernel_rfl) d4
                have cc := (hC.bel.cell (cell_lt HG7.b.sc.c1)).trans HG7.b.sc.c1
                simp [go_sem, Flow.ylP_value, Flow.ylP_skip, Flow.ylP_enter, Flow.ylP_panic, hc0, hf0, e125, cc]
                exact hK gb wz hC (fun _ _ => rfl)
               ·intro gb L wz K ρ hc0 hf0 hF hO hU hcl hi hd hC hK
                have d1 : L 1 = true := hd ⟨1, .data⟩ (by simp) rfl
                have e122 : ρ (.tmp 122) = .string s := hF 122 1 (by kernel_rfl) d1
                have d5 : L 5 = true := hd ⟨5, .data⟩ (by simp) rfl
                have e126 : ρ (.tmp 126) = .int .i64 (p4 : Int) := hF 126 5 (by kernel_rfl) d5
                simp [go_sem, Flow.ylP_value, Flow.ylP_skip, Flow.ylP_enter, Flow.ylP_panic, hc0, hf0, e122, e126, j1, j2]
                exact hK gb wz hC (fun _ _ => rfl)
               ·intro gb L wz K ρ hc0 hf0 hF hO hU hcl hi hd hC hK
                have d0 : L 0 = true := hd ⟨0, .data⟩ (by simp) rfl
                have e121 : ρ (.tmp 121) = .agg #[.int .i64 ((tm : Int) + (n1' : Int)), .int .i64 r2, .int .i64 (kd : Int), .string x3, .string ⟨#[]⟩, .int .i64 0] := hF 121 0 (by kernel_rfl) d0
                have d6 : L 6 = true := hd ⟨6, .data⟩ (by simp) rfl
                have e127 : ρ (.tmp 127) = .string (s.extract p4 s.size) := hF 127 6 (by kernel_rfl) d6
                simp [go_sem, Flow.ylP_value, Flow.ylP_skip, Flow.ylP_enter, Flow.ylP_panic, hc0, hf0, e121, e127]
                refine (fill_any ((tm : Int) + (n1' : Int), r2, (kd : Int), x3, ⟨#[]⟩, 0) (s.extract p4 s.size) wz hl4 (gW.below hC.bel)).mono ?_
                rintro r wn ⟨rfl, hbn⟩
                rw [HFL.out]
                exact ⟨_, rfl, hK gb wn (hC.grow hbn) (by intro j hj; unfold fiV; split <;> first | rfl | (rw [hi] at hj; cases hj) | (have hz := hcl _ 7 (by kernel_rfl) hj; rw [hi] at hz; cases hz))⟩
               ·intro gb L wz K ρ hc0 hf0 hF hO hU hcl hi hd hC hK
                have d7 : L 7 = true := hd ⟨7, .data⟩ (by simp) rfl
                have e128 : ρ (.tmp 128) = fillV (y, nf, ef) := hF 128 7 (by kernel_rfl) d7
                simp [go_sem, Flow.ylP_value, Flow.ylP_skip, Flow.ylP_enter, Flow.ylP_panic, hc0, hf0, e128]
                exact hK gb wz hC (fun _ _ => rfl)
               ·intro gb L wz K ρ hc0 hf0 hF hO hU hcl hi hd hC hK
                have d8 : L 8 = true := hd ⟨8, .data⟩ (by simp) rfl
                have e120 : ρ (.tmp 120) = fillV (y, nf, ef) := hF 120 8 (by kernel_rfl) d8
                simp [go_sem, Flow.ylP_value, Flow.ylP_skip, Flow.ylP_enter, Flow.ylP_panic, hc0, hf0, e120, fillV]
                exact hK gb wz hC (fun _ _ => rfl)
               ·intro gb L wz K ρ hc0 hf0 hF hO hU hcl hi hd hC hK
                have d8 : L 8 = true := hd ⟨8, .data⟩ (by simp) rfl
                have e120 : ρ (.tmp 120) = fillV (y, nf, ef) := hF 120 8 (by kernel_rfl) d8
                simp [go_sem, Flow.ylP_value, Flow.ylP_skip, Flow.ylP_enter, Flow.ylP_panic, hc0, hf0, e120, fillV]
                exact hK gb wz hC (fun _ _ => rfl)
               ·intro gb L wz K ρ hc0 hf0 hF hO hU hcl hi hd hC hK
                have d8 : L 8 = true := hd ⟨8, .data⟩ (by simp) rfl
                have e120 : ρ (.tmp 120) = fillV (y, nf, ef) := hF 120 8 (by kernel_rfl) d8
                simp [go_sem, Flow.ylP_value, Flow.ylP_skip, Flow.ylP_enter, Flow.ylP_panic, hc0, hf0, e120, fillV]
                exact hK gb wz hC (fun _ _ => rfl)
               ·intro gb L wz K ρ hc0 hf0 hF hO hU hcl hi hd hC hK
                simp [go_sem, Flow.ylP_value, Flow.ylP_skip, Flow.ylP_enter, Flow.ylP_panic, hc0, hf0]
                have h13 : L 13 = false := by cases h : L 13 with | false => rfl | true => (have := hcl 13 12 (by kernel_rfl) h; rw [hi] at this; cases this)
                rw [hi, h13] at hC
                refine hK wz.heap.size _ ?_ (by intro j hj; unfold fiV; split <;> first | rfl | (rw [hi] at hj; cases hj) | (have hz := hcl _ 12 (by kernel_rfl) hj; rw [hi] at hz; cases hz))
                show FI W11 y _ true (L 13) _
                rw [h13]
                exact hC.make
               ·intro gb L wz K ρ hc0 hf0 hF hO hU hcl hi hd hC hK
                have d12 : L 12 = true := hd ⟨12, .data⟩ (by simp) rfl
                have e16 : ρ (.tmp 16) = .pointer (some ⟨gb, 0, none⟩) := hF 16 12 (by kernel_rfl) d12
                have d9 : L 9 = true := hd ⟨9, .data⟩ (by simp) rfl
                have e129 : ρ (.tmp 129) = wrV y.1 y.2.1 y.2.2.1 y.2.2.2.1 y.2.2.2.2.1 y.2.2.2.2.2 := hF 129 9 (by kernel_rfl) d9
                rw [d12, hi] at hC
                obtain ⟨u0, u1, u2, u3, u4, u5⟩ := hC.no rfl rfl
                obtain ⟨m0, m1, m2, m3, m4, m5⟩ := hC.free rfl
                simp [go_sem, Flow.ylP_value, Flow.ylP_skip, Flow.ylP_enter, Flow.ylP_panic, hc0, hf0, e16, e129, u0, u1, u2, u3, u4, u5, m0, m1, m2, m3, m4, m5]
                refine hK gb _ ?_ (fun _ _ => rfl)
                show FI W11 y gb (L 12) true _
                rw [d12]
                exact hC.store
               ·intro gb L wz K ρ hc0 hf0 hF hO hU hcl hi hd hC hK
                have d10 : L 10 = true := hd ⟨10, .data⟩ (by simp) rfl
                have e130 : ρ (.tmp 130) = .int .i64 (nf : Int) := hF 130 10 (by kernel_rfl) d10
                simp [go_sem, Flow.ylP_value, Flow.ylP_skip, Flow.ylP_enter, Flow.ylP_panic, hc0, hf0, e130]
                exact hK gb wz hC (fun _ _ => rfl)
               ·intro gb L wz K ρ hc0 hf0 hF hO hU hcl hi hd hC hK
                have d11 : L 11 = true := hd ⟨11, .data⟩ (by simp) rfl
                have e131 : ρ (.tmp 131) = errV ef := hF 131 11 (by kernel_rfl) d11
                simp [go_sem, Flow.ylP_value, Flow.ylP_skip, Flow.ylP_enter, Flow.ylP_panic, hc0, hf0, e131]
                exact hK gb wz hC (fun _ _ => rfl)
               ·intro g L ch wz h; exact h.elim
               ·intro gb L wz hL hC
                simp only [Flow.putAll, fiV]
                rw [← HA3.out]
                have hB8 := HG7.b.below hC.bel
                have hW8 := hC.yes (hL 13 (by decide))
                have hRg : R ≠ gb := by have q1 := S.r; have q2 := HG7.b.sz; have q3 := (hC.ge (hL 12 (by decide))).1; omega
                have HFW := fun (e0 : ef = 0) => bws_go HX6.out (HO3.out.trans (wfin_go (by rw [raw_eq HX2'.out HX3.out, HFL.out, e0])))
                have HFB := fun (e0 : ef ≠ 0) => bws_bad HX6.out (HO3.out.trans (wfin_bad (by rw [raw_eq HX2'.out HX3.out]; exact HFL.out) e0)) e0
                clear hC hL HG7 HFL HX6 HO3 HX2' HX3 j1 j2 gW hl4
                by_cases he : ef = 0
                ·have HXn := Lib.hid (HFW he)
                 subst he
                 clear HFW HFB
                 rw [errV_zero]
                 go_wp2_with fail
                 refine (check_nil R _).mono ?_
                 rintro r w2 ⟨rfl, rfl⟩
                 have w9 : IntKind.i64.wrap ((p4 : Int) + (nf : Int)) = ((p4 + nf : Nat) : Int) := IntWalk.i64_in _ (by omega)
                 have HB9 := hB8.setR S (p4 + nf)
                 have hW9 := hW8.other (C := R) (i := 1) hRg (.int .i64 ((p4 + nf : Nat) : Int))
                 rw [Int.natCast_add] at HB9 hW9
                 have HA9 := HB9.below (below1 (wz.setCell ⟨R, 1, none⟩ (.int .i64 ((p4 : Int) + (nf : Int)))) (.cells #[.int .i64 y.1, .int .i64 y.2.1, .int .i64 y.2.2.1, .string y.2.2.2.1, .string y.2.2.2.2.1, .int .i64 y.2.2.2.2.2] 53))
                 have hsz9 := HB9.sz
                 have hce := cells_of (wz.setCell ⟨R, 1, none⟩ (.int .i64 ((p4 : Int) + (nf : Int)))) #[.int .i64 y.1, .int .i64 y.2.1, .int .i64 y.2.2.1, .string y.2.2.2.1, .string y.2.2.2.2.1, .int .i64 y.2.2.2.2.2] 53
                 rw [show (wz.setCell ⟨R, 1, none⟩ (.int .i64 ((p4 : Int) + (nf : Int)))).heap.size = wz.heap.size by simp] at hce hsz9
                 have hws60 : ws.length ≤ 60 := by have := HAr.out.2.1; omega
                 have m2' := HB9.bt.c2
                 have m3' := HA9.bt.c2
                 obtain ⟨x0', x1', x2', x3', x4', x5'⟩ := hW9
                 obtain ⟨l0, l1, l2⟩ := hB8.sc
                 clear hB8 hW8
                 go_wp2_with (first
                  | (at_builtin; refine wpList_append_own _ rfl (.tmp 144) (.tmp 146) 23 rfl B 53 k0 (.agg #[.int .i64 0, .int .i64 0, .int .i64 0, .string ⟨#[]⟩, .string ⟨#[]⟩, .int .i64 0]) 6 64 Tryz.underlying23 hk0 hx0 hx1 hx2 rfl (by decide) v2 ws.length (wrsV ws) rfl HA9.ws ⟨wz.heap.size, 0, none⟩ 1 1 (wrCells y) rfl rfl hce (by intro u hu; simp [wrCells] at hu; rcases hu with rfl | rfl | rfl | rfl | rfl | rfl <;> rfl) (by unfold maxLen; omega) (by omega) (by simp; omega) ?_; intro v5 w5 hT5 hg5 _; obtain ⟨A5, c5, rfl⟩ := own_form hT5; have HL9 := HA9.growW S hg5 (wrsV_snoc rfl hT5); have bb5 := grown_own (Below.refl B _) hg5 HA9.sz HA9.ws; have m4 := HA9.bt.keep bb5 S.o S.e; obtain ⟨_, _, y2', _, _, _, y6', _⟩ := m4))
                 clear x0' x1' x2' x3' x4' x5' l0 l1 l2 m2' m3' HB9 HA9
                 have w2'' : IntKind.i64.wrap ((d : Int) + 1) = ((d + 1 : Nat) : Int) := IntWalk.i64_in _ (by omega)
                 have hAr' := Lib.hid (show (a ++ [(n3 : Int)]).length = d + 1 ∧ (ws ++ [y]).length = d + 1 ∧ ∀ x ∈ a ++ [(n3 : Int)], 0 ≤ x ∧ x ≤ 60 from ⟨by rw [List.length_append, HAr.out.1]; rfl, by rw [List.length_append, HAr.out.2.1]; rfl, fun x hx => by
                  rcases List.mem_append.1 hx with hx | hx
                  ·exact HAr.out.2.2 x hx
                  ·rw [List.mem_singleton.1 hx]; omega⟩)
                 go_wp2
                 go_roundw
                 case rel => exact ⟨d + 1, c', p4 + nf, tm + n1', a ++ [(n3 : Int)], ws ++ [y], .slice A5 (ws.length + 1) c5, by go_num, by rw [Int.natCast_add], hdc', ht2, hfar, HXn, hAr', HL9⟩
                 case measure => simp [intOf]; omega
                ·have HV := Lib.hid (HFB he)
                 have HE := Lib.hid he
                 clear HFW HFB
                 go_wp2_with fail
                 refine (check_err (errV_is _ ef) he (hg.below hB8.bel) hB8.sc).mono ?_
                 rintro r w2 ⟨rfl, hb2⟩
                 have hZ := hB8.below hb2
                 go_wp2
                 exact bdoor_bad HV.out HE.out hZ.bt S.oe S.lo S.le hZ.bel rfl rfl
              ·have HV := Lib.hid (bws_bad HX6.out (HO2.out.trans (wkey_bad hv he)) he)
               have HE := Lib.hid he
               have hZ := HG4.below hb1
               clear hv he
               go_wp2
               exact bdoor_bad HV.out HE.out hZ.b.bt S.oe S.lo S.le hZ.b.bel rfl rfl
             ·have HV := Lib.hid (bws_bad HX6.out (HO1.out.trans (wrep_bad hv he)) he)
              have HE := Lib.hid he
              have hZ := HG1.below hb1
              clear hv he
              go_wp2
              exact bdoor_bad HV.out HE.out hZ.b.bt S.oe S.lo S.le hZ.b.bel rfl rfl
           ·have HV := Lib.hid (bws_bad HX6.out (HO.out.trans (wtime_bad hv he)) he)
            have HE := Lib.hid he
            have hZ := HG.below hb1
            clear hv he
            go_wp2
            exact bdoor_bad HV.out HE.out hZ.b.bt S.oe S.lo S.le hZ.b.bel rfl rfl
         ·have t0 : decide ((d : Int) < (m2 : Int)) = false := by simp only [decide_eq_false_iff_not]; omega
          have t0' : decide (d < m2) = false := by simpa using hlt
          obtain rfl : c = 0 := by omega
          have HX6 := Lib.hid (bws_end HX5.out)
          have k1 := HL.sc.c1
          clear HX5 hlt hdc
          by_cases hlt : p < s.size
          ·have t1 : decide ((p : Int) < (s.size : Int)) = true := by simp only [decide_eq_true_eq]; omega
           have t1' : decide (p < s.size) = true := by simpa using hlt
           have HV := Lib.hid (bend_more HX6.out hlt)
           clear hlt
           go_wp2_with fail
           refine (check_err (.bare 3 (by omega)) (by omega) gR HL.sc).mono ?_
           rintro r w1 ⟨rfl, hb1⟩
           have hZ := HL.below hb1
           go_wp2
           exact bdoor_bad HV.out (by omega) hZ.bt S.oe S.lo S.le hZ.bel rfl rfl
          ·have t1 : decide ((p : Int) < (s.size : Int)) = false := by simp only [decide_eq_false_iff_not]; omega
           have t1' : decide (p < s.size) = false := by simpa using hlt
           obtain rfl : p = s.size := by omega
           have HNL := Lib.hid hlt
           obtain ⟨A4, c4, rfl⟩ := own_form HL.a
           have ha60 : a.length ≤ 60 := by have := HAr.out.1; omega
           clear hlt i1 i2
           go_wp2_with fail
           refine (klist_any T.length c3 a.length c4 A3 A4 T a wr (strs_of (Sl.of_own HL.t)) (ints_of (Sl.of_own HL.a)) (by omega) (by omega) HTs.out (fun x hx => by have := HAr.out.2.2 x hx; omega)).mono ?_
           rintro r w1 ⟨v, ex, rfl, _, hex, hb1⟩
           have HL1 := HL.below hb1
           have hex2 := hex.setNil (u := ex) HL1.bt.ce
           have HB2 := HL1.bt.setE S.oe ex
           have sc2 : Sc (w1.setCell ⟨E, 0, none⟩ ex) R s s.size := ⟨res_nb HL1.sc.c0 (Ne.symm S.re), res_nb HL1.sc.c1 (Ne.symm S.re), by simpa using HL1.sc.f1⟩
           have F2 := own_set (s := E) (j := 0) ex HL1.f S.e
           have H2 := own_set (s := E) (j := 0) ex HL1.h S.e
           have W2 := own_set (s := E) (j := 0) ex HL1.ws S.e
           have b2 := HL1.bel.setCell (p := ⟨E, 0, none⟩) S.le ex
           have l0 := HL1.bt.ce
           have l1 := HL1.bt.fe
           have l2 := HB2.ce
           clear k1 HL1 HL hb1
           by_cases he : (klist T a).2.1 = 0
           ·obtain rfl := berr_nil hex he
            clear hex hex2
            go_wp2_with fail
            clear l0 l1 l2
            generalize w1.setCell ⟨E, 0, none⟩ .nilIface = W2' at *
            refine (check_nil R _).mono ?_
            rintro r w3 ⟨rfl, rfl⟩
            have HB2' := HB2
            obtain ⟨l0, l1, l2, l3, _, _, _, _⟩ := HB2'
            obtain ⟨A5, c5, rfl⟩ := own_form W2
            have hcap := own_cap F2
            have hcap2 := own_cap H2
            have hbat : Bat W2' ⟨A1, f.length, c1, A2, h.length, c2, A5, ws.length, c5, f, h, ws⟩ := ⟨Sl.of_own F2, Sl.of_own H2, Sl.of_own W2, by show f.length ≤ maxLen; have := HF.out.1; unfold maxLen; omega, by show h.length ≤ maxLen; have := HH.out.1; unfold maxLen; omega, by show ws.length ≤ maxLen; have := HAr.out.2.1; unfold maxLen; omega⟩
            go_wp2_with fail
            refine (bright_any W2' ⟨A1, f.length, c1, A2, h.length, c2, A5, ws.length, c5, f, h, ws⟩ hbat HF.out.2 HH.out.2 (hg.below b2)).mono ?_
            rintro r w4 ⟨ev, rfl, hev, hb4⟩
            have HB4 := HB2.below hb4
            have sc4 := sc2.below hb4
            have b4 := b2.trans (hb4.mono b2.size)
            have F4 := own_below F2 hb4
            have H4 := own_below H2 hb4
            have W4' := own_below W2 hb4
            clear l0 l1 l2 l3 hbat F2 H2 W2 hb4 sc2 b2
            unfold ErrOf at hev
            by_cases hb : (bright f h ws).1 = 0
            ·obtain rfl := berr_nil hev hb
             have HV := Lib.hid (bend_ok HX6.out HNL.out he hb)
             clear hev hb he
             go_wp2_with fail
             refine (check_nil R _).mono ?_
             rintro r w3 ⟨rfl, rfl⟩
             have P0 := HB4.set0 S.oe (.slice A1 f.length c1)
             have P1 := P0.set1 S.oe (.slice A2 h.length c2)
             have P2 := P1.set2 S.oe (.slice A5 ws.length c5)
             have P3 := P2.setE S.oe .nilIface
             have F5 := own_set (s := E) (j := 0) .nilIface (own_set (s := w.heap.size) (j := 2) (.slice A5 ws.length c5) (own_set (s := w.heap.size) (j := 1) (.slice A2 h.length c2) (own_set (s := w.heap.size) (j := 0) (.slice A1 f.length c1) F4 S.o) S.o) S.o) S.e
             have H5 := own_set (s := E) (j := 0) .nilIface (own_set (s := w.heap.size) (j := 2) (.slice A5 ws.length c5) (own_set (s := w.heap.size) (j := 1) (.slice A2 h.length c2) (own_set (s := w.heap.size) (j := 0) (.slice A1 f.length c1) H4 S.o) S.o) S.o) S.e
             have W5' := own_set (s := E) (j := 0) .nilIface (own_set (s := w.heap.size) (j := 2) (.slice A5 ws.length c5) (own_set (s := w.heap.size) (j := 1) (.slice A2 h.length c2) (own_set (s := w.heap.size) (j := 0) (.slice A1 f.length c1) W4' S.o) S.o) S.o) S.e
             have bZ := (((b4.setCell (p := ⟨w.heap.size, 0, none⟩) S.lo (.slice A1 f.length c1)).setCell (p := ⟨w.heap.size, 1, none⟩) S.lo (.slice A2 h.length c2)).setCell (p := ⟨w.heap.size, 2, none⟩) S.lo (.slice A5 ws.length c5)).setCell (p := ⟨E, 0, none⟩) S.le .nilIface
             have a1 := P0.c1
             have a2 := P1.c2
             have a3 := P2.ce
             obtain ⟨l0, l1, l2, l3, m0, m1, m2', m3⟩ := HB4
             clear P0 P1 P2 F4 H4 W4'
             go_wp2
             clear l0 l1 l2 l3 m0 m1 m2' m3 a1 a2 a3
             generalize (((w4.setCell ⟨w.heap.size, 0, none⟩ (.slice A1 f.length c1)).setCell ⟨w.heap.size, 1, none⟩ (.slice A2 h.length c2)).setCell ⟨w.heap.size, 2, none⟩ (.slice A5 ws.length c5)).setCell ⟨E, 0, none⟩ .nilIface = WZ at *
             refine leaves_cons (f := 102) (args := #[.pointer (some ⟨w.heap.size, 0, none⟩), .pointer (some ⟨E, 0, none⟩)]) (by simp) (by simp [go_sem]) ?_
             refine (bd_idle w.heap.size E WZ).mono ?_
             rintro e' u' w' ⟨rfl, rfl, rfl⟩
             show Leaves _ _ _ _ [] .returning _
             obtain ⟨z0, z1, z2, z3, _, _, _, _⟩ := P3
             refine ⟨.tuple #[.agg #[.slice A1 f.length c1, .slice A2 h.length c2, .slice A5 ws.length c5], .nilIface], by simp [results, Tryz.results57, go_sem, z0, z1, z2, z3], ⟨A1, f.length, c1, A2, h.length, c2, A5, ws.length, c5, f, h, ws⟩, .nilIface, rfl, ⟨Sl.of_own F5, Sl.of_own H5, Sl.of_own W5', by show f.length ≤ maxLen; have := HF.out.1; unfold maxLen; omega, by show h.length ≤ maxLen; have := HH.out.1; unfold maxLen; omega, by show ws.length ≤ maxLen; have := HAr.out.2.1; unfold maxLen; omega⟩, by rw [HV.out], ⟨hcap, hcap2⟩, by rw [HV.out]; exact .none, bZ⟩
            ·have HV := Lib.hid (bend_bad HX6.out HNL.out he hb)
             have HE := Lib.hid hb
             obtain ⟨t, u, rfl⟩ := berr_some hev hb
             clear he
             go_wp2_with fail
             refine (check_err hev hb (hg.below b4) sc4).mono ?_
             rintro r w3 ⟨rfl, hb3⟩
             have hZ := HB4.below hb3
             go_wp2
             exact bdoor_bad HV.out HE.out hZ S.oe S.lo S.le (b4.trans (hb3.mono b4.size)) rfl rfl
           ·have HV := Lib.hid (bend_list HX6.out HNL.out he)
            have HE := Lib.hid he
            obtain ⟨t, u, rfl⟩ := berr_some hex he
            clear hex
            go_wp2_with fail
            refine (check_err hex2 he (hg.below b2) sc2).mono ?_
            rintro r w3 ⟨rfl, hb3⟩
            have hZ := HB2.below hb3
            go_wp2
            exact bdoor_bad HV.out HE.out hZ S.oe S.lo S.le (b2.trans (hb3.mono b2.size)) rfl rfl
       ·have HV := Lib.hid (bkeys_num HX3.out hv he)
        have HE := Lib.hid he
        have hZ := HL.below hb1
        clear hv he
        go_wp2
        exact bdoor_bad HV.out HE.out hZ.bt S.oe S.lo S.le hZ.bel rfl rfl
    ·have HV := Lib.hid (btab_bad HX1.out hv he)
     have HE := Lib.hid he
     have hZ := HL3.below hb1
     clear hv he
     go_wp2
     exact bdoor_bad HV.out HE.out hZ.bt S.oe S.lo S.le hZ.bel rfl rfl
   ·have HV := Lib.hid (bhave_bad HX0.out hv he)
    have HE := Lib.hid he
    have hZ := HL1.below hb1
    clear hv he
    go_wp2
    exact bdoor_bad HV.out HE.out hZ.bt S.oe S.lo S.le hZ.bel rfl rfl
  ·have HV := Lib.hid (bread_from HB.out hv he)
   have HE := Lib.hid he
   have hZ := HL.below hb1
   clear hv he
   go_wp2
   exact bdoor_bad HV.out HE.out hZ.bt S.oe S.lo S.le hZ.bel rfl rfl
end Go.Proofs.YtkejlnjnoiidnaaGreatDoor
end

section
namespace Go.Proofs.YtkejlnjnoiidnaaGreatDoor
set_option linter.unusedSimpArgs false
set_option linter.unusedVariables false
open Go.RowKit As Tokens
/-- Tokens that fit. -/
def TFits (l : List Tok) : Prop := ∀ x ∈ l, tokFits x
theorem TFits.nil : TFits [] := fun _ h => by cases h
theorem TFits.own {l : List Tok} {t : ByteArray} (h : TFits l) (ht : t.size ≤ 1000000) : TFits (l ++ [(t, 0, 0)]) := by
 intro x hx
 rcases List.mem_append.1 hx with hx | hx
 ·exact h x hx
 ·rw [List.mem_singleton.1 hx]
  exact ⟨by simp only; omega, by simp, by simp⟩
theorem and_one {n : Nat} (h : n < 18446744073709551616) : bits BinOp.and IntKind.u64 (n : Int) 1 = ((n % 2 : Nat) : Int) := by
 have := u64_and_nat n 1 h (by omega)
 rw [show ((1 : Nat) : Int) = 1 from rfl] at this
 rw [this, Nat.and_one_is_mod]
end Go.Proofs.YtkejlnjnoiidnaaGreatDoor
end

section
namespace Go.Proofs.YtkejlnjnoiidnaaGreatDoor
set_option linter.unusedSimpArgs false
set_option linter.unusedVariables false
open Go.RowKit As Tokens
/-- The results' variables. -/
structure RT (w : World) (O F : Nat) (v : Value) (x y : Int) : Prop where
 o : w.cell? ⟨O, 0, none⟩ = some v
 fo : w.frozen? ⟨O, 0, none⟩ = false
 x : w.cell? ⟨F, 0, none⟩ = some (.int .i64 x)
 y : w.cell? ⟨F, 1, none⟩ = some (.int .i64 y)
 fx : w.frozen? ⟨F, 0, none⟩ = false
 fy : w.frozen? ⟨F, 1, none⟩ = false
theorem RT.keep {w w' : World} {O F B : Nat} {v : Value} {x y : Int} (h : RT w O F v x y) (hb : Below B w w') (h1 : O < B) (h3 : F < B) : RT w' O F v x y :=
 ⟨(hb.cell (p := ⟨O, 0, none⟩) h1).trans h.o, (hb.frozen (p := ⟨O, 0, none⟩) h1).trans h.fo, (hb.cell (p := ⟨F, 0, none⟩) h3).trans h.x, (hb.cell (p := ⟨F, 1, none⟩) h3).trans h.y, (hb.frozen (p := ⟨F, 0, none⟩) h3).trans h.fx, (hb.frozen (p := ⟨F, 1, none⟩) h3).trans h.fy⟩
theorem RT.below {w w' : World} {O F : Nat} {v : Value} {x y : Int} (h : RT w O F v x y) (hb : Below w.heap.size w w') : RT w' O F v x y := h.keep hb (cell_lt h.o) (cell_lt h.x)
theorem RT.drew {w : World} {O F : Nat} {v : Value} {x y : Int} (h : RT w O F v x y) : RT w.drew O F v x y := ⟨h.o, h.fo, h.x, h.y, h.fx, h.fy⟩
theorem rt_ne {w : World} {B i j : Nat} {v u : Value} (h : w.cell? ⟨B, j, none⟩ = some u) (hij : i ≠ j) : (w.setCell ⟨B, i, none⟩ v).cell? ⟨B, j, none⟩ = some u := by
 rw [World.cell?_setCell_other _ _ _ _ (by intro h; injection h with _ h2; exact hij (by first | exact h2 | exact h2.symm | injection h2))]
 exact h
theorem rt_nb {w : World} {B C i j : Nat} {v u : Value} (h : w.cell? ⟨C, j, none⟩ = some u) (hij : B ≠ C) : (w.setCell ⟨B, i, none⟩ v).cell? ⟨C, j, none⟩ = some u := by
 rw [World.cell?_setCell_other _ _ _ _ (by intro h; injection h with h1 _; exact hij (by first | exact h1 | exact h1.symm))]
 exact h
theorem RT.setF {w : World} {O F : Nat} {v : Value} {x y : Int} (h : RT w O F v x y) (h1 : F ≠ O) (x' y' : Int) : RT ((w.setCell ⟨F, 0, none⟩ (.int .i64 x')).setCell ⟨F, 1, none⟩ (.int .i64 y')) O F v x' y' :=
 ⟨rt_nb (rt_nb h.o h1) h1, by simpa using h.fo, rt_ne (World.cell?_setCell_same _ _ _ h.x) (by omega), World.cell?_setCell_same _ _ _ (rt_ne h.y (by omega)), by simpa using h.fx, by simpa using h.fy⟩
theorem RT.setO {w : World} {O F : Nat} {v : Value} {x y : Int} (h : RT w O F v x y) (h2 : O ≠ F) (v' : Value) : RT (w.setCell ⟨O, 0, none⟩ v') O F v' x y :=
 ⟨World.cell?_setCell_same _ _ _ h.o, by simpa using h.fo, rt_nb h.x h2, rt_nb h.y h2, by simpa using h.fx, by simpa using h.fy⟩
theorem RT.new (w : World) (t1 t3 : TypeId) : RT ((w.alloc (.cells #[.slice none 0 0] t1)).alloc (.cells #[.int .i64 0, .int .i64 0] t3)) w.heap.size (w.heap.size + 1) (.slice none 0 0) 0 0 := by
 have b2 := below1 (w.alloc (.cells #[.slice none 0 0] t1)) (.cells #[.int .i64 0, .int .i64 0] t3)
 have l1 : (w.alloc (.cells #[.slice none 0 0] t1)).heap.size = w.heap.size + 1 := by simp
 have o1 : (w.alloc (.cells #[.slice none 0 0] t1)).cell? ⟨w.heap.size, 0, none⟩ = some (.slice none 0 0) := by rw [World.cell?_alloc_new]; rfl
 have T := Two.new (w.alloc (.cells #[.slice none 0 0] t1)) 0 0 t3
 rw [l1] at T
 refine ⟨(b2.cell (cell_lt o1)).trans o1, ?_, T.c0, T.c1, T.f0, T.f1⟩
 rw [b2.frozen (p := ⟨w.heap.size, 0, none⟩) (cell_lt o1)]; simp
end Go.Proofs.YtkejlnjnoiidnaaGreatDoor
end

section
namespace Go.Proofs.YtkejlnjnoiidnaaGreatDoor
set_option linter.unusedSimpArgs false
set_option linter.unusedVariables false
open Go.RowKit As Tokens
end Go.Proofs.YtkejlnjnoiidnaaGreatDoor
end

section
namespace Go.Proofs.YtkejlnjnoiidnaaGreatDoor
set_option linter.unusedSimpArgs false
set_option linter.unusedVariables false
open Go.RowKit As Tokens
theorem ferr_some {w : World} {v : Value} {e p : Int} (h : ErrIs w v e p) (h0 : e ≠ 0) : ∃ t u, v = .iface t u := by
 cases h with
 | none => exact absurd rfl h0
 | bare _ _ => exact ⟨_, _, rfl⟩
 | at_ _ _ _ _ _ _ _ => exact ⟨_, _, rfl⟩
end Go.Proofs.YtkejlnjnoiidnaaGreatDoor
end

section
namespace Go.Proofs.YtkejlnjnoiidnaaGreatDoor
set_option linter.unusedSimpArgs false
set_option linter.unusedVariables false
open Go.RowKit As
/-- A batch's three cells that may be written. -/
structure O3 (w : World) (O : Nat) (v0 v1 v2 : Value) : Prop where
 c0 : w.cell? ⟨O, 0, none⟩ = some v0
 c1 : w.cell? ⟨O, 1, none⟩ = some v1
 c2 : w.cell? ⟨O, 2, none⟩ = some v2
 f0 : w.frozen? ⟨O, 0, none⟩ = false
 f1 : w.frozen? ⟨O, 1, none⟩ = false
 f2 : w.frozen? ⟨O, 2, none⟩ = false
def put3 (w : World) (O : Nat) (a b c : Value) : World := ((w.setCell ⟨O, 0, none⟩ a).setCell ⟨O, 1, none⟩ b).setCell ⟨O, 2, none⟩ c
section
variable {w w' : World} {O : Nat} {v0 v1 v2 : Value}
theorem O3.below (h : O3 w O v0 v1 v2) (hb : Below w.heap.size w w') : O3 w' O v0 v1 v2 :=
 ⟨(hb.cell (cell_lt h.c0)).trans h.c0, (hb.cell (cell_lt h.c1)).trans h.c1, (hb.cell (cell_lt h.c2)).trans h.c2, (hb.frozen (cell_lt h.c0)).trans h.f0, (hb.frozen (cell_lt h.c1)).trans h.f1, (hb.frozen (cell_lt h.c2)).trans h.f2⟩
theorem O3.new (w : World) (a b c : Value) (t : TypeId) : O3 (w.alloc (.cells #[a, b, c] t)) w.heap.size a b c := by
 refine ⟨?_, ?_, ?_, by simp, by simp, by simp⟩ <;> (rw [World.cell?_alloc_new]; rfl)
theorem O3.put (h : O3 w O v0 v1 v2) (a b c : Value) : O3 (put3 w O a b c) O a b c := by
 unfold put3
 refine ⟨?_, ?_, ?_, by simpa using h.f0, by simpa using h.f1, by simpa using h.f2⟩
 ·exact res_ne (res_ne (World.cell?_setCell_same _ _ _ h.c0) (by omega)) (by omega)
 ·exact res_ne (World.cell?_setCell_same _ _ _ (res_ne h.c1 (by omega))) (by omega)
 ·exact World.cell?_setCell_same _ _ _ (res_ne (res_ne h.c2 (by omega)) (by omega))
theorem below_put3 {B : Nat} {a : World} (h : Below B a w) (hO : B ≤ O) (x y z : Value) : Below B a (put3 w O x y z) := by
 unfold put3
 exact ((h.setCell (p := ⟨O, 0, none⟩) hO _).setCell (p := ⟨O, 1, none⟩) hO _).setCell (p := ⟨O, 2, none⟩) hO _
end
/-- Where a call ends that reads a batch. -/
def REnd (X : BR) (w : World) (e : Ending) (w' : World) : Prop :=
 ∃ (x : BatArg) (ve : Value), e = .returned (.tuple #[x.v, ve]) ∧ Bat w' x ∧ (x.f, x.h, x.l) = X.1 ∧ (x.n ≤ x.c ∧ x.n' ≤ x.c') ∧ ErrIs w' ve X.2.1 X.2.2 ∧ Below w.heap.size w w'
theorem rend_no {X : BR} {w w' : World} {ve : Value} {e p : Int} (hX : X = (noB, e, p)) (hv : ErrIs w' ve e p) (hb : Below w.heap.size w w') : REnd X w (.returned (.tuple #[.agg #[nilS, nilS, nilS], ve])) w' := by
 subst hX
 exact ⟨noBat, ve, rfl, noBat_is _, rfl, ⟨Nat.le_refl _, Nat.le_refl _⟩, hv, hb⟩
theorem cell_keep {w : World} {p q : Addr} {u v x : Value} (hq : w.cell? q = some u) (hp : w.cell? p = some v) (hne : u ≠ v) : (w.setCell p x).cell? q = some u := by
 rw [World.cell?_setCell_other _ _ _ _ (by intro h; subst h; rw [hq] at hp; injection hp with hp; exact hne hp)]
 exact hq
theorem cell_put3 {w : World} {O : Nat} {q : Addr} {u a b c : Value} (hO : O3 w O nilS nilS nilS) (hq : w.cell? q = some u) (hu : u ≠ nilS) : (put3 w O a b c).cell? q = some u := by
 unfold put3
 have h1 := cell_keep (x := a) hq hO.c0 hu
 have h2 := cell_keep (x := b) h1 (res_ne (v := a) hO.c1 (i := 0) (by omega)) hu
 exact cell_keep h2 (res_ne (v := b) (res_ne (v := a) hO.c2 (i := 0) (by omega)) (i := 1) (by omega)) hu
theorem size_put3 {w : World} {O : Nat} {a b c : Value} : (put3 w O a b c).heap.size = w.heap.size := by unfold put3; simp
theorem sl_put3 {w : World} {B O size n : Nat} {A : Option Addr} {xs : List Value} {a b c : Value} (h : Sl w B size A n xs) (hO : O3 w O nilS nilS nilS) (hx : ∀ u ∈ xs, u ≠ nilS) : Sl (put3 w O a b c) B size A n xs :=
 ⟨h.1, fun hn => by
  obtain ⟨b, o, e, hb, hc⟩ := h.2 hn
  exact ⟨b, o, e, hb, fun j u hu => cell_put3 hO (hc j u hu) (hx u (List.mem_of_getElem? hu))⟩⟩
theorem ent_no {l : List Ent} : ∀ u ∈ l.flatMap entCells, u ≠ nilS := by
 intro u hu e
 obtain ⟨x, _, hx⟩ := List.mem_flatMap.1 hu
 subst e
 simp [entCells] at hx
theorem wr_no {l : List Wr} : ∀ u ∈ l.flatMap wrCells, u ≠ nilS := by
 intro u hu e
 obtain ⟨x, _, hx⟩ := List.mem_flatMap.1 hu
 subst e
 simp [wrCells] at hx
theorem bat_put3 {w : World} {O : Nat} {a b c : Value} {x : BatArg} (h : Bat w x) (hO : O3 w O nilS nilS nilS) : Bat (put3 w O a b c) x := by
 refine ⟨?_, ?_, ?_, h.nf, h.nh, h.nl⟩ <;> rw [size_put3]
 ·exact sl_put3 h.f hO ent_no
 ·exact sl_put3 h.h hO ent_no
 ·exact sl_put3 h.l hO wr_no
theorem fr_cut {t : ByteArray} {a b : Nat} (h : t.size ≤ 1000000) : (t.extract a b).size ≤ 1000000 := by rw [ByteArray.size_extract]; omega
theorem err_put3 {w : World} {O : Nat} {a b c v : Value} {e p : Int} (h : ErrIs w v e p) (hO : O3 w O nilS nilS nilS) : ErrIs (put3 w O a b c) v e p := by
 cases h with
 | none => exact .none
 | bare _ he => exact .bare _ he
 | at_ b o _ _ he h0 h1 => exact .at_ b o _ _ he (cell_put3 hO h0 (by intro h; cases h)) (cell_put3 hO h1 (by intro h; cases h))
end Go.Proofs.YtkejlnjnoiidnaaGreatDoor
end
