/- body.Read says what bread says. Printed by gen_bodyread.py out of bodyread.src. -/
import Derived.Test.YtkejlnjnoiidnaaGreatDoorZ13
import Derived.Test.YtkejlnjnoiidnaaGreatDoorZ14
import Derived.Test.YtkejlnjnoiidnaaGreatDoorZ6
set_option linter.unusedSimpArgs false
set_option linter.unusedVariables false
section
namespace Go.Proofs.YtkejlnjnoiidnaaGreatDoor
open Go.RowKit As
theorem BT.new (w : World) (t1 t2 : TypeId) : BT ((w.alloc (.cells #[nilS, nilS, nilS] t1)).alloc (.cells #[.nilIface] t2)) w.heap.size (w.heap.size + 1) nilS nilS nilS .nilIface := by
 generalize hW : w.alloc (.cells #[nilS, nilS, nilS] t1) = w1;have b2 := zaa w1 (.cells #[.nilIface] t2);have l1 : w1.heap.size = w.heap.size + 1 := by rw [← hW]; simp
 have o : ∀ i, i < 3 → w1.cell? ⟨w.heap.size, i, none⟩ = some nilS := by
  intro i hi;rw [← hW, World.cell?_alloc_new];have : i = 0 ∨ i = 1 ∨ i = 2 := by omega
  rcases this with rfl | rfl | rfl <;> rfl
 have g : ∀ i, (w1.alloc (.cells #[.nilIface] t2)).frozen? ⟨w.heap.size, i, none⟩ = false := by
  intro i;rw [b2.frozen (p := ⟨w.heap.size, i, none⟩) (by simp; omega), ← hW]; simp
 have e : (w1.alloc (.cells #[.nilIface] t2)).cell? ⟨w.heap.size + 1, 0, none⟩ = some .nilIface := by rw [← l1, World.cell?_alloc_new]; rfl
 exact ⟨(b2.cell (cell_lt (o 0 (by omega)))).trans (o 0 (by omega)), (b2.cell (cell_lt (o 1 (by omega)))).trans (o 1 (by omega)), (b2.cell (cell_lt (o 2 (by omega)))).trans (o 2 (by omega)), e, g 0, g 1, g 2, by rw [← l1]; simp⟩
theorem zpz (w : World) (cs : Array Value) (t : TypeId) : ∀ j u, cs.toList[j]? = some u → (w.alloc (.cells cs t)).cell? ((⟨w.heap.size, 0, none⟩ : Addr).add j) = some u := by
 intro j u hj;have e : (⟨w.heap.size, 0, none⟩ : Addr).add j = ⟨w.heap.size, j, none⟩ := by unfold Addr.add; split <;> simp_all
 rw [e, World.cell?_alloc_new];simpa using hj
theorem zxm {h : List Ent} {T : List ByteArray} {tm n i x kd : Nat} {r t : Int} {b : ByteArray} (h1 : h[i]? = some (r, t)) (h2 : T[x]? = some b) : raw h T (tm + n) i x kd = ((tm : Int) + (n : Int), r, (kd : Int), b, ⟨#[]⟩, 0) := by
 unfold raw;rw [List.getD, h1, List.getD, h2];simp
theorem zbo.ymw {w : World} {v u : Value} {e p : Int} {ad : Addr} (h : zbo w v e p) (hc : w.cell? ad = some .nilIface) : zbo (w.setCell ad u) v e p := by
 cases h with
 | none => exact .none
 | bare _ he => exact .bare _ he
 | at_ b o _ _ he h0 h1 =>
  refine .at_ b o _ _ he ?_ ?_
  ·rw [World.cell?_setCell_other _ _ _ _ (by intro h; rw [h, h0] at hc; cases hc)]; exact h0
  ·rw [World.cell?_setCell_other _ _ _ _ (by intro h; rw [h, h1] at hc; cases hc)]; exact h1
theorem zxl {w : World} {v : Value} {e p : Int} (h : zbo w v e p) (h0 : e = 0) : v = .nilIface := by
 subst h0;exact (zbo.zero h).1
theorem ztx {w : World} {v : Value} {e p : Int} (h : zbo w v e p) (h0 : e ≠ 0) : ∃ t u, v = .iface t u := by
 cases h with
 | none => exact absurd rfl h0
 | bare _ _ => exact ⟨_, _, rfl⟩
 | at_ _ _ _ _ _ _ _ => exact ⟨_, _, rfl⟩
theorem ydg {w : World} {B n : Nat} {A : Option Addr} {l : List Int} (h : Sl w B 1 A n (zkw l)) : Sl w B 1 A n (l.flatMap fun x => [Value.int .i64 x]) := by
 unfold zkw at h;rw [List.map_eq_flatMap] at h;exact h
theorem ydk {w : World} {B n : Nat} {A : Option Addr} {l : List ByteArray} (h : Sl w B 1 A n (l.map Value.string)) : Sl w B 1 A n (l.flatMap fun x => [Value.string x]) := by
 rw [List.map_eq_flatMap] at h;exact h
theorem zhi {w : World} {base : Nat} {e : TypeId} {size n m c : Nat} {A : Option Addr} {xs : List Value} (h : w.ownsRow base e size (.slice A n c) m xs) : n ≤ c := by
 rcases h.2 with ⟨hv, _⟩ | ⟨g, cap, cur, hv, _, _, hc, _⟩
 ·injection hv with _ h1 h2; omega
 ·injection hv with _ h1 h2; omega
theorem ymt : (Tryz.prog.info? 3).map (fun i => (i.zero, i.size, i.bytes)) = some (some (.int .i64 0), 1, 8) := by kernel_rfl
theorem bdWr : (Tryz.prog.info? 53).map (fun i => (i.zero, i.size, i.bytes)) = some (some (.agg #[.int .i64 0, .int .i64 0, .int .i64 0, .string ⟨#[]⟩, .string ⟨#[]⟩, .int .i64 0]), 6, 64) := by kernel_rfl
theorem zkf {s : ByteArray} {l : List Ent} {n : Nat} {e : Int} (hv : zbj s = (l, n, e)) : Hid (l.length ≤ 16 ∧ ∀ y ∈ l, zbe y) := by
 have h := zvw (s := s);rw [hv] at h;refine Lib.hid ⟨zbu h, fun y hy => ?_⟩;have := (znt h).1 y hy;unfold zeh at this;unfold zbe;omega
def fiV (s : ByteArray) (R p4 : Nat) (tmn r2 : Int) (kd : Nat) (x3 : ByteArray) (y : Wr) (nf : Nat) (ef : Int) (g : Nat) : Nat → Value
 | 0 => .agg #[.int .i64 tmn, .int .i64 r2, .int .i64 (kd : Int), .string x3, .string ⟨#[]⟩, .int .i64 0]
 | 1 => .string s
 | 2 => .pointer (some ⟨R, 0, none⟩)
 | 3 => .pointer (some ⟨R, 0, none⟩)
 | 4 => .pointer (some ⟨R, 1, none⟩)
 | 5 => .int .i64 (p4 : Int)
 | 6 => .string (s.extract p4 s.size)
 | 7 => zdb (y, nf, ef)
 | 8 => zdb (y, nf, ef)
 | 9 => wrV y.1 y.2.1 y.2.2.1 y.2.2.2.1 y.2.2.2.2.1 y.2.2.2.2.2
 | 10 => .int .i64 (nf : Int)
 | 11 => errV ef
 | 12 => .pointer (some ⟨g, 0, none⟩)
 | 14 => .int .i64 (nf : Int)
 | 15 => errV ef
 | _ => undef
structure FI (w : World) (y : Wr) (gb : Nat) (l12 l13 : Bool) (wz : World) : Prop where
 bel : Below w.heap.size w wz
 ge : l12 = true → w.heap.size ≤ gb ∧ gb < wz.heap.size
 free : l12 = true → zdf wz gb
 no : l12 = true → l13 = false → WrAt wz gb 0 0 0 ⟨#[]⟩ ⟨#[]⟩ 0
 yes : l13 = true → WrAt wz gb y.1 y.2.1 y.2.2.1 y.2.2.2.1 y.2.2.2.2.1 y.2.2.2.2.2
theorem FI.grow {w wz wn : World} {y : Wr} {gb : Nat} {l12 l13 : Bool} (h : FI w y gb l12 l13 wz) (hb : Below wz.heap.size wz wn) : FI w y gb l12 l13 wn :=
 ⟨h.bel.trans (hb.mono h.bel.size), fun a => ⟨(h.ge a).1, Nat.lt_of_lt_of_le (h.ge a).2 hb.size⟩, fun a => (h.free a).below (h.ge a).2 hb, fun a b => (h.no a b).below hb, fun a => (h.yes a).below hb⟩
theorem FI.make {w wz : World} {y : Wr} {gb : Nat} (h : FI w y gb false false wz) : FI w y wz.heap.size true false (wz.alloc (wrO 0 0 0 ⟨#[]⟩ ⟨#[]⟩ 0)) :=
 ⟨h.bel.alloc h.bel.size _, fun _ => ⟨h.bel.size, by simp⟩, fun _ => zdf.new _ _ _ _ _ _ _, fun _ _ => WrAt.new _ _ _ _ _ _ _, fun a => by cases a⟩
theorem FI.store {w wz : World} {y : Wr} {gb : Nat} (h : FI w y gb true false wz) : FI w y gb true true (put6 wz gb y.1 y.2.1 y.2.2.1 y.2.2.2.1 y.2.2.2.2.1 y.2.2.2.2.2) :=
 ⟨zax h.bel (h.ge rfl).1, fun _ => ⟨(h.ge rfl).1, by unfold put6; simpa using (h.ge rfl).2⟩, fun _ => ((((((h.free rfl).set _ _ _).set _ _ _).set _ _ _).set _ _ _).set _ _ _).set _ _ _, fun _ b => (by cases b), fun _ => (h.no rfl rfl).put⟩
set_option maxHeartbeats 16000000 in
set_option maxRecDepth 100000 in
theorem zhv (s : ByteArray) (w : World) (hs : s.size ≤ 1000000) (hg : zbh w) :
  Calls Tryz.prog 57 #[.string s] w fun e w' => ynr s w e w' := by
 obtain ⟨i0, hi, hz0, hz1, hz2⟩ := info_parts zfy;obtain ⟨j0, hj, hy0, hy1, hy2⟩ := info_parts ymt;obtain ⟨k0, hk0, hx0, hx1, hx2⟩ := info_parts bdWr;have hmf : ∀ (fn : Fn) (first cap : Array Value) (w : World), (Instr.makeFunc fn first cap).run Tryz.prog w = .ok (.func fn first cap) w := fun _ _ _ _ => rfl
 have hR := BT.new w 25 33;have b0 := (zaa w (Obj.cells #[nilS, nilS, nilS] 25)).alloc (by simp) (.cells #[.nilIface] 33);by_cases hbig : 20000 < s.size
 ·have d0 : decide (20000 < s.size) = true := by simpa using hbig
  have d0' : decide ((20000 : Int) < (s.size : Int)) = true := decide_eq_true (by omega);have hV := Lib.hid (ztp hbig);go_enter Tryz.func57, Tryz.ntmps57;go_wp2_with fail;exact bodyPost_ret (v := .tuple #[zis.v, .iface 27 (.int .i64 4)]) (by simp [results, Tryz.results57, go_sem, zav.v]) rfl ⟨zis, _, rfl, zhy _, by rw [hV.out], ⟨Nat.le_refl _, Nat.le_refl _⟩, by rw [hV.out]; exact .bare 4 (by omega), (zaa w _).alloc (by simp) _⟩
 ·have d0 : decide (20000 < s.size) = false := by simpa using hbig
  have d0' : decide ((20000 : Int) < (s.size : Int)) = false := decide_eq_false (by omega);have HB := Lib.hid hbig;clear hbig;go_enter_defers Tryz.func57, Tryz.ntmps57;go_wp2_with fail;have bR := zaa ((w.alloc (.cells #[nilS, nilS, nilS] 25)).alloc (.cells #[.nilIface] 33)) (.cells #[.string s, .int .i64 0] 147);have hSc : Sc (((w.alloc (.cells #[nilS, nilS, nilS] 25)).alloc (.cells #[.nilIface] 33)).alloc (.cells #[.string s, .int .i64 0] 147)) (w.heap.size + 1 + 1) s 0 := by
   have l2 : ((w.alloc (.cells #[nilS, nilS, nilS] 25)).alloc (.cells #[.nilIface] 33)).heap.size = w.heap.size + 1 + 1 := by simp
   rw [← l2];generalize (w.alloc (.cells #[nilS, nilS, nilS] 25)).alloc (.cells #[.nilIface] 33) = W2;exact ⟨by rw [World.cell?_alloc_new]; rfl, by rw [World.cell?_alloc_new]; rfl, by simp⟩
  have hR1 := hR.below bR;have b1 := b0.trans (bR.mono b0.size);have hsz : (((w.alloc (.cells #[nilS, nilS, nilS] 25)).alloc (.cells #[.nilIface] 33)).alloc (.cells #[.string s, .int .i64 0] 147)).heap.size = w.heap.size + 1 + 1 + 1 := by simp
  clear hR b0 bR;obtain ⟨O, hO⟩ : ∃ O, O = w.heap.size := ⟨_, rfl⟩;have hO' := Lib.hid hO;generalize ((w.alloc (.cells #[nilS, nilS, nilS] 25)).alloc (.cells #[.nilIface] 33)).alloc (.cells #[.string s, .int .i64 0] 147) = W at *;have S : BS w w.heap.size (w.heap.size + 1) (w.heap.size + 1 + 1) W.heap.size := ⟨by omega, by omega, by omega, by omega, by omega, by omega, by omega, by omega, by omega⟩;clear hO hO';generalize hE : w.heap.size + 1 = E at *;generalize hR : E + 1 = R at *;generalize hB : W.heap.size = B at *;clear hE hR hsz;have HL : BL w w.heap.size E R B s 0 nilS nilS nilS nilS nilS [] [] [] [] [] W := ⟨hSc, hR1, World.ownsRow_nil _ _ _ _, World.ownsRow_nil _ _ _ _, World.ownsRow_nil _ _ _ _, World.ownsRow_nil _ _ _ _, World.ownsRow_nil _ _ _ _, b1, Nat.le_of_eq hB.symm⟩;clear hSc hR1 b1 O;refine (zpi s 0 R W hs (Nat.zero_le _) (hg.below HL.bel) HL.sc).mono ?_;rintro r w1 ⟨f, n1, e, hv, hx⟩;rw [show s.extract 0 s.size = s from ByteArray.extract_zero_size] at hv;rcases hx with ⟨rfl, hn1, v0, u1, rfl, hT1, hb1, rfl⟩ | ⟨he, rfl, hb1⟩
  ·have HX0 := Lib.hid (zqf HB.out hv);have HF := zkf hv;have HL1 := (HL.below hb1).setR S (0 + n1);have T1 := zab (s := R) (j := 1) (.int .i64 ((0 + n1 : Nat) : Int)) (zei hT1 (Nat.le_of_eq hB.symm)) S.r;clear hv hT1 hb1 HL;rw [Nat.zero_add] at HL1 T1 hn1 ⊢;generalize u1.setCell ⟨R, 1, none⟩ (.int .i64 (n1 : Int)) = W1 at *;go_wp2_with fail;refine (zpi s n1 R W1 hs hn1 (hg.below HL1.bel) HL1.sc).mono ?_;rintro r w1 ⟨h, n2, e, hv, hx⟩;rcases hx with ⟨rfl, hn2, v1, u2, rfl, hT2, hb2, rfl⟩ | ⟨he, rfl, hb1⟩
   ·have HX1 := Lib.hid (zxw HX0.out hv);have HH := zkf hv;have HL2 := (HL1.below hb2).setR S (n1 + n2);have T1' := zab (s := R) (j := 1) (.int .i64 ((n1 + n2 : Nat) : Int)) (own_below T1 hb2) S.r;have T2 := zab (s := R) (j := 1) (.int .i64 ((n1 + n2 : Nat) : Int)) (zei hT2 HL1.sz) S.r;clear hv hT2 hb2 HL1 T1 HX0;generalize u2.setCell ⟨R, 1, none⟩ (.int .i64 ((n1 + n2 : Nat) : Int)) = W2 at *;generalize n1 + n2 = p at *;have HL3 := HL2.vecs S T1' T2;obtain ⟨A1, c1, rfl⟩ := zah T1';obtain ⟨A2, c2, rfl⟩ := zah T2;obtain ⟨k0, k1, _, _, k4, k5, _, _⟩ := HL2.bt;clear T1' T2 HL2 hn1;go_wp2_with fail;clear k0 k1 k4 k5;generalize (W2.setCell ⟨w.heap.size, 0, none⟩ (.slice A1 f.length c1)).setCell ⟨w.heap.size, 1, none⟩ (.slice A2 h.length c2) = W3 at *;refine (zgf s p R 60 _ hs hn2 (by omega) (hg.below HL3.bel) HL3.sc).mono ?_;rintro r w1 ⟨q, m, k, e, hv, hx⟩;rcases hx with ⟨rfl, hm, _, _, hk, rfl, rfl⟩ | ⟨he, rfl, hb1⟩
    ·have HX2 := Lib.hid (ydz HX1.out hv);have HL4 := HL3.step S q (p + k);clear hv HX1 HL3;generalize (W3.drewN q).setCell ⟨R, 1, none⟩ (.int .i64 ((p + k : Nat) : Int)) = W4 at *;generalize p + k = p at *;go_wp2;clear q hn2;go_loopw [6, 7, 8, 9, 37] (fun tv _ _ _ iv wr => ∃ (d c p : Nat) (T : List ByteArray), iv = .int .i64 (d : Int) ∧ d + c = m ∧ p ≤ s.size ∧ Hid (zcj s = zgq s f h c p T) ∧ (T.length = d ∧ Hid (∀ x ∈ T, x.size ≤ maxLen)) ∧ BL w w.heap.size E R B s p (.slice A1 f.length c1) (.slice A2 h.length c2) nilS tv nilS f h [] T [] wr) (fun _ _ _ _ iv _ => m - (intOf iv).toNat)
     case atStart => exact ⟨0, m, p, [], rfl, by omega, hk, HX2, ⟨rfl, Lib.hid (fun _ h => by cases h)⟩, HL4⟩
     case round =>
      obtain ⟨d, c, p, T, rfl, hdc, hp, HX3, ⟨hTd, HTs⟩, HL⟩ := hrel;clear HL4 HX2 hk;have hl : (s.extract p s.size).size ≤ maxLen := by rw [ByteArray.size_extract]; unfold maxLen; omega
      have i1 : (0 : Int) ≤ (p : Int) := by omega
      have i2 : (p : Int) ≤ (s.size : Int) := by omega
      have hd60 : d ≤ 60 := by omega
      have gR := hg.below HL.bel;obtain ⟨k0, k1, k2⟩ := HL.sc;by_cases hlt : d < m
      ·have t0 : decide ((d : Int) < (m : Int)) = true := decide_eq_true (by omega);have t0' : decide (d < m) = true := by simpa using hlt
       obtain ⟨c', hc'⟩ : ∃ c', c = c' + 1 := ⟨c - 1, by omega⟩;have hdc' : (d + 1) + c' = m := by omega
       have HX4 := Lib.hid (show zcj s = zgq s f h (c' + 1) p T by rw [← hc']; exact HX3.out);obtain ⟨⟨b, n, e⟩, hu⟩ : ∃ x, zaq (s.extract p s.size) = x := ⟨_, rfl⟩;have hfar : p + n ≤ s.size := by
        have h2 : (zaq (s.extract p s.size)).2.1 ≤ (s.extract p s.size).size := by
         rcases zci (s.extract p s.size) with h | ⟨e, h, _⟩
         ·exact h.2.2.1
         ·rw [h]; exact Nat.zero_le _
        rw [hu, ByteArray.size_extract] at h2;simp only at h2;omega
       have HBs := Lib.hid (show b.size ≤ maxLen by
        have h2 : (zaq (s.extract p s.size)).1.size ≤ 2000 := by
         rcases zci (s.extract p s.size) with h | ⟨e, h, _⟩
         ·exact h.2.2.2.2.1
         ·rw [h]; exact Nat.zero_le _
        rw [hu] at h2;unfold maxLen; exact Nat.le_trans h2 (by decide))
       have HU := Lib.hid hu;clear hu hc' HX3 hdc;go_wp2_with fail;refine (zgr (s.extract p s.size) wr hl gR).mono ?_;rintro r w1 ⟨rfl, hb1⟩;rw [HU.out];simp only;have HL1 := HL.below hb1;clear k0 k1 k2 hb1 HL;by_cases he : e = 0
       ·subst he;rw [zak];go_wp2_with fail;refine (check_nil R _).mono ?_;rintro r w2 ⟨rfl, rfl⟩;have HX5 := Lib.hid (zxv HX4.out HU.out);have hsz1 := HL1.sz;have HA := HL1.below (zaa w1 (.cells #[.string b] 9));have w1' : IntKind.i64.wrap ((p : Int) + (n : Int)) = ((p + n : Nat) : Int) := IntWalk.i64_in _ (by omega);have w2' : IntKind.i64.wrap ((d : Int) + 1) = ((d + 1 : Nat) : Int) := IntWalk.i64_in _ (by omega);go_wp2_with (first
         | (at_builtin; refine wpList_append_own _ rfl (.tmp 53) (.tmp 55) 116 rfl B 9 i0 (.string ⟨#[]⟩) 1 16 Tryz.underlying116 hi hz0 hz1 hz2 rfl (by decide) u6 T.length (T.map Value.string) rfl HA.t ⟨w1.heap.size, 0, none⟩ 1 1 [.string b] rfl rfl (zby _ _ _) (by intro u hu; simp at hu; subst hu; rfl) (by unfold maxLen; omega) (by omega) (by simp; omega) ?_; intro v3 w3 hT3 hg3 _; have HL2 := HA.yjo S hg3 (zfi rfl hT3); have HC := HL2.sc; obtain ⟨k0, k1, k2⟩ := HC))
        have HL3 := HL2.setR S (p + n);go_wp2;go_roundw
        case rel => exact ⟨d + 1, c', p + n, T ++ [b], by go_num, hdc', hfar, HX5, ⟨by simp [hTd], Lib.hid (fun x hx => by rcases List.mem_append.1 hx with hx | hx; exact HTs.out x hx; rw [List.mem_singleton.1 hx]; exact HBs.out)⟩, by rw [show ((p : Int) + (n : Int)) = ((p + n : Nat) : Int) by omega]; exact HL3⟩
        case measure => simp [intOf]; omega
       ·have HV := Lib.hid (zsd HX4.out HU.out he);have HE := Lib.hid he;go_wp2_with fail;refine (zdi (zfz _ e) he (hg.below HL1.bel) HL1.sc).mono ?_;rintro r w2 ⟨rfl, hb2⟩;have hZ := HL1.below hb2;go_wp2;exact zcg HV.out HE.out hZ.bt S.oe S.lo S.le hZ.bel rfl rfl
      ·have t0 : decide ((d : Int) < (m : Int)) = false := decide_eq_false (by omega);have t0' : decide (d < m) = false := by simpa using hlt
       obtain rfl : c = 0 := by omega
       clear hlt hdc i1 i2 hl gR k0 k1 k2;go_wp2_with fail;refine (zgf s p R 60 _ hs hp (by omega) (hg.below HL.bel) HL.sc).mono ?_;rintro r w1 ⟨q, m2, k, e, hv, hx⟩;rcases hx with ⟨rfl, hm2, _, _, hk, rfl, rfl⟩ | ⟨he, rfl, hb1⟩
       ·have HX4 := Lib.hid (zsr HX3.out hv);have HL4 := HL.step S q (p + k);clear hv HX3 HL;generalize (wr.drewN q).setCell ⟨R, 1, none⟩ (.int .i64 ((p + k : Nat) : Int)) = W4 at *;generalize p + k = p at *;go_wp2;obtain ⟨A3, c3, rfl⟩ := zah HL4.t;have hT60 : T.length ≤ 60 := by omega
        clear q hTd;go_loopw [10, 11, 12, 13, 14, 15, 16, 17, 18, 69] (fun av mv _ _ _ _ _ _ _ iv wr => ∃ (d c p tm : Nat) (a : List Int) (ws : List Wr) (v2 : Value), iv = .int .i64 (d : Int) ∧ mv = .int .i64 (tm : Int) ∧ d + c = m2 ∧ tm ≤ 1099511627776 ∧ p ≤ s.size ∧ Hid (zcj s = bws s f h T c p tm a ws) ∧ Hid (a.length = d ∧ ws.length = d ∧ ∀ x ∈ a, 0 ≤ x ∧ x ≤ 60) ∧ BL w w.heap.size E R B s p (.slice A1 f.length c1) (.slice A2 h.length c2) v2 (.slice A3 T.length c3) av f h ws T a wr) (fun _ _ _ _ _ _ _ _ _ iv _ => m2 - (intOf iv).toNat)
        case atStart => exact ⟨0, m2, p, 0, [], [], nilS, rfl, rfl, by omega, by omega, hk, HX4, Lib.hid ⟨rfl, rfl, fun _ h => by cases h⟩, HL4⟩
        case round =>
         obtain ⟨d, c, p, tm, a, ws, v2, rfl, rfl, hdc, htm, hp, HX5, HAr, HL⟩ := hrel;clear HL4 HX4 hk;have i1 : (0 : Int) ≤ (p : Int) := by omega
         have i2 : (p : Int) ≤ (s.size : Int) := by omega
         have hd60 : d ≤ 60 := by omega
         have gR := hg.below HL.bel;by_cases hlt : d < m2
         ·have t0 : decide ((d : Int) < (m2 : Int)) = true := decide_eq_true (by omega);have t0' : decide (d < m2) = true := by simpa using hlt
          obtain ⟨c', hc'⟩ : ∃ c', c = c' + 1 := ⟨c - 1, by omega⟩;have hdc' : (d + 1) + c' = m2 := by omega
          have HX6 := Lib.hid (show zcj s = bws s f h T (c' + 1) p tm a ws by rw [← hc']; exact HX5.out);clear hc' HX5 hdc;go_wp2_with fail;refine (ygd s p R wr hs hp gR HL.sc).mono ?_;rintro r w1 (⟨hend, rfl, hb1⟩ | ⟨hps, hbad, rfl, hb1⟩ | ⟨hps, hok, rfl, q, rfl⟩)
          ·have HV := Lib.hid (zej HX6.out (zyq hend) (by omega));have hZ := HL.below hb1;go_wp2;exact zcg HV.out (by omega) hZ.bt S.oe S.lo S.le hZ.bel rfl rfl
          ·have HV := Lib.hid (zej HX6.out (zsk (Nat.not_le.2 hps) hbad) (by omega));have hZ := HL.below hb1;go_wp2;exact zcg HV.out (by omega) hZ.bt S.oe S.lo S.le hZ.bel rfl rfl
          ·have HO := Lib.hid (yat (h := h) (T := T) (tm := tm) (Nat.not_le.2 hps) hok);have HL1 := HL.step S q (p + 1);have hkd := zhn s p;clear hok HL;generalize (wr.drewN q).setCell ⟨R, 1, none⟩ (.int .i64 ((p + 1 : Nat) : Int)) = W5 at *;obtain ⟨kd, hkd'⟩ : ∃ kd, kd = byteOf s p := ⟨_, rfl⟩;rw [← hkd'] at HO hkd ⊢;have HKD := Lib.hid hkd';clear hkd';have HG := HL1.newG (0, 0, (kd : Int), ⟨#[]⟩, ⟨#[]⟩, 0);have k1 := HG.b.sc.c1;go_wp2_with fail;clear HL1 k1 hkd;generalize W5.alloc (wrO 0 0 (kd : Int) ⟨#[]⟩ ⟨#[]⟩ 0) = W6 at *;generalize W5.heap.size = g at *;generalize hp1 : p + 1 = p1 at *;have HP1 := Lib.hid hp1;have hp1s : p1 ≤ s.size := by omega
           have ep1 : (p : Int) + 1 = (p1 : Int) := by omega
           rw [ep1];clear hp1 hps ep1 i1 i2;refine (zgf s p1 R 1099511627776 W6 hs hp1s (by omega) (hg.below HG.b.bel) HG.b.sc).mono ?_;rintro r w1 ⟨q1, n1', k1', e, hv, hx⟩;rcases hx with ⟨rfl, hn, _, _, hk1, rfl, rfl⟩ | ⟨he, rfl, hb1⟩
           ·have HG1 := HG.step S q1 (p1 + k1');have HVt := Lib.hid hv;have wt : IntKind.i64.wrap ((tm : Int) + (n1' : Int)) = ((tm + n1' : Nat) : Int) := IntWalk.i64_in _ (by omega);clear hv HG;generalize (W6.drewN q1).setCell ⟨R, 1, none⟩ (.int .i64 ((p1 + k1' : Nat) : Int)) = W7 at *;by_cases hov : 1099511627776 < tm + n1'
            ·have t1 : decide ((1099511627776 : Int) < (tm : Int) + (n1' : Int)) = true := decide_eq_true (by omega);have t1' : decide (1099511627776 < tm + n1') = true := by simpa using hov
             have HV := Lib.hid (zej HX6.out (HO.out.trans (zox HVt.out hov)) (by omega));have HS := HG1.setR S p1;have HC := HG1.b.sc;obtain ⟨k0, k1, k2⟩ := HC;go_wp2_with fail;refine (zdi (.bare 2 (by omega)) (by omega) (hg.below HS.b.bel) HS.b.sc).mono ?_;rintro r w2 ⟨rfl, hb2⟩;have hZ := HS.below hb2;go_wp2;exact zcg HV.out (by omega) hZ.b.bt S.oe S.lo S.le hZ.b.bel rfl rfl
            ·have t1 : decide ((1099511627776 : Int) < (tm : Int) + (n1' : Int)) = false := decide_eq_false (by omega);have t1' : decide (1099511627776 < tm + n1') = false := by simpa using hov
             have HO1 := Lib.hid (HO.out.trans (zxb HVt.out hov));have ht2 : tm + n1' ≤ 1099511627776 := by omega
             clear hov HO HVt;have mH : IntKind.i64.wrap ((h.length : Int) - 1) = (h.length : Int) - 1 := IntWalk.i64_in _ (by have := HH.out.1; omega);have mM : (h.length : Int) - 1 ≤ 9223372036854775807 := by have := HH.out.1; omega
             have k1 := HG1.b.bt.c1;generalize hp2 : p1 + k1' = p2 at *;go_wp2_with fail;clear k1;refine (zgf s p2 R ((h.length : Int) - 1) W7 hs (by omega) mM (hg.below HG1.b.bel) HG1.b.sc).mono ?_;rintro r w1 ⟨q2, n2', k2, e, hv, hx⟩;rcases hx with ⟨rfl, hn2, _, _, hk2, rfl, rfl⟩ | ⟨he, rfl, hb1⟩
             ·have HG2 := HG1.step S q2 (p2 + k2);have HO2 := Lib.hid (HO1.out.trans (yav hv));clear hv HG1 HO1;generalize (W7.drewN q2).setCell ⟨R, 1, none⟩ (.int .i64 ((p2 + k2 : Nat) : Int)) = W8 at *;have hE : Ents W8 W8.heap.size A2 h.length h := ⟨Sl.zbf HG2.b.h, HH.out.2⟩;obtain ⟨b2, o2, r2, t2, hA2, _, hx2, _, q0, _⟩ := hE.at_ (k := n2') (by omega);have k1 := HG2.b.bt.c1;rw [hA2] at k1;have HA2 := Lib.hid hA2;have HX2' := Lib.hid hx2;clear hA2 hx2 hE;have hi0 : (n2' : Int) < (h.length : Int) := by omega
              have HG3 := HG2.setG S (y := ((tm : Int) + (n1' : Int), 0, (kd : Int), ⟨#[]⟩, ⟨#[]⟩, 0)) 0 (.int .i64 ((tm : Int) + (n1' : Int))) rfl;have HG4 := HG3.setG S (y := ((tm : Int) + (n1' : Int), r2, (kd : Int), ⟨#[]⟩, ⟨#[]⟩, 0)) 1 (.int .i64 r2) rfl;have f0 := HG2.froz 0;have f1 := HG3.froz 1;have c0 : W8.cell? ⟨g, 0, none⟩ = some (.int .i64 0) := HG2.cell 0 (by omega);have c1' : (W8.setCell ⟨g, 0, none⟩ (.int .i64 ((tm : Int) + (n1' : Int)))).cell? ⟨g, 1, none⟩ = some (.int .i64 0) := HG3.cell 1 (by omega);go_wp2_with fail;clear f0 f1 c0 c1' k1 q0 hi0 HG2 HG3;generalize hW9 : (W8.setCell ⟨g, 0, none⟩ (.int .i64 ((tm : Int) + (n1' : Int)))).setCell ⟨g, 1, none⟩ (.int .i64 r2) = W9 at *;generalize hp3 : p2 + k2 = p3 at *;have mT : IntKind.i64.wrap ((T.length : Int) - 1) = (T.length : Int) - 1 := IntWalk.i64_in _ (by omega);go_wp2_with fail;refine (zgf s p3 R ((T.length : Int) - 1) W9 hs (by omega) (by omega) (hg.below HG4.b.bel) HG4.b.sc).mono ?_;rintro r w1 ⟨q3, n3, k3, e, hv, hx⟩;rcases hx with ⟨rfl, hn3, _, _, hk3, rfl, rfl⟩ | ⟨he, rfl, hb1⟩
              ·have HG5 := HG4.step S q3 (p3 + k3);have HO3 := Lib.hid (HO2.out.trans (yef hv));clear hv HG4 HO2 hW9;generalize (W9.drewN q3).setCell ⟨R, 1, none⟩ (.int .i64 ((p3 + k3 : Nat) : Int)) = W10 at *;generalize hp4 : p3 + k3 = p4 at *;have ha60 : a.length ≤ 60 := by have := HAr.out.1; omega
               have hn3T : n3 < T.length := by omega
               have hn3T' : (n3 : Int) < (T.length : Int) := by omega
               have HA := HG5.below (zaa W10 (.cells #[.int .i64 (n3 : Int)] 3));have hsz10 := HG5.b.sz;clear HG5;go_wp2_with (first
                | (at_builtin; refine wpList_append_own _ rfl (.tmp 111) (.tmp 113) 117 rfl B 3 j0 (.int .i64 0) 1 8 Tryz.underlying117 hj hy0 hy1 hy2 rfl (by decide) u10 a.length (zkw a) rfl HA.b.a ⟨W10.heap.size, 0, none⟩ 1 1 [.int .i64 (n3 : Int)] rfl rfl (zby _ _ _) (by intro u hu; simp at hu; subst hu; rfl) (by unfold maxLen; omega) (by omega) (by simp; omega) ?_; intro v4 w4 hT4 hg4 _; have HG6 := HA.zup S hg4 (zpt rfl hT4); obtain ⟨b3, o3, x3, hA3, _, hx3, q3⟩ := zfj Value.string (l := T) (by have := Sl.zbf HG6.b.t; simpa [List.map_eq_flatMap] using this) rfl hn3T; have c3' : w4.cell? ⟨g, 3, none⟩ = some (.string ⟨#[]⟩) := HG6.cell 3 (by omega); have f3 := HG6.froz 3))
               have HG7 := HG6.setG S (y := ((tm : Int) + (n1' : Int), r2, (kd : Int), x3, ⟨#[]⟩, 0)) 3 (.string x3) rfl;have HX3 := Lib.hid hx3;have HA3 := Lib.hid hA3;clear hA3 hx3 HG6 c3' f3 hT4 hg4 HA q3;generalize w4.setCell ⟨g, 3, none⟩ (.string x3) = W11 at *;have hp4s : p4 ≤ s.size := by omega
               have hl4 : (s.extract p4 s.size).size ≤ maxLen := by rw [ByteArray.size_extract]; unfold maxLen; omega
               obtain ⟨⟨y, nf, ef⟩, hf⟩ : ∃ z, zcy ((tm : Int) + (n1' : Int), r2, (kd : Int), x3, ⟨#[]⟩, 0) (s.extract p4 s.size) = z := ⟨_, rfl⟩;have hfar : p4 + nf ≤ s.size := by
                have h2 := zkj ((tm : Int) + (n1' : Int), r2, (kd : Int), x3, ⟨#[]⟩, 0) (s.extract p4 s.size);rw [hf, ByteArray.size_extract] at h2;simp only at h2;omega
               have HFL := Lib.hid hf;have j1 : (0 : Int) ≤ (p4 : Int) := by omega
               have j2 : (p4 : Int) ≤ (s.size : Int) := by omega
               have gW := hg.below HG7.b.bel;clear hf;refine Flow.zan (by kernel_rfl) (by kernel_rfl) (by kernel_rfl) 174 rfl (by kernel_rfl) (fiV s R p4 ((tm : Int) + (n1' : Int)) r2 kd x3 y nf ef) (fun gb L wz => FI W11 y gb (L 12) (L 13) wz) (fun _ _ => False) (0) (⟨(Below.refl _ _).drew, fun h => (by cases h), fun h => (by cases h), fun h => (by cases h), fun h => (by cases h)⟩) ⟨?_, ?_, ?_, ?_, ?_, ?_, ?_, ?_, ?_, ?_, ?_, ?_, ?_, ?_, ?_, ?_, trivial⟩ ?_ ?_
               ·intro gb L wz K ρ hc0 hf0 hF hO hU hcl hi hd hC hK;have e12 : ρ (.tmp 12) = .pointer (some ⟨g, 0, none⟩) := hO 12 (by kernel_rfl);obtain ⟨c0, c1, c2, c3, c4, c5⟩ := HG7.at_.below hC.bel;simp [go_sem, hc0, hf0, e12, c0, c1, c2, c3, c4, c5];exact hK gb wz hC (fun _ _ => rfl)
               ·intro gb L wz K ρ hc0 hf0 hF hO hU hcl hi hd hC hK;have e0 : ρ (.tmp 0) = .string s := hO 0 (by kernel_rfl);simp [go_sem, hc0, hf0, e0];exact hK gb wz hC (fun _ _ => rfl)
               ·intro gb L wz K ρ hc0 hf0 hF hO hU hcl hi hd hC hK;have e4 : ρ (.tmp 4) = .pointer (some ⟨R, 0, none⟩) := hO 4 (by kernel_rfl);simp [go_sem, hc0, hf0, e4];exact hK gb wz hC (fun _ _ => rfl)
               ·intro gb L wz K ρ hc0 hf0 hF hO hU hcl hi hd hC hK;have d2 : L 2 = true := hd ⟨2, .data⟩ (by simp) rfl;have e123 : ρ (.tmp 123) = .pointer (some ⟨R, 0, none⟩) := hF 123 2 (by kernel_rfl) d2;simp [go_sem, hc0, hf0, e123];exact hK gb wz hC (fun _ _ => rfl)
               ·intro gb L wz K ρ hc0 hf0 hF hO hU hcl hi hd hC hK;have d3 : L 3 = true := hd ⟨3, .data⟩ (by simp) rfl;have e124 : ρ (.tmp 124) = .pointer (some ⟨R, 0, none⟩) := hF 124 3 (by kernel_rfl) d3;simp [go_sem, hc0, hf0, e124];exact hK gb wz hC (fun _ _ => rfl)
               ·intro gb L wz K ρ hc0 hf0 hF hO hU hcl hi hd hC hK;have d4 : L 4 = true := hd ⟨4, .data⟩ (by simp) rfl;have e125 : ρ (.tmp 125) = .pointer (some ⟨R, 1, none⟩) := hF 125 4 (by kernel_rfl) d4;have cc := (hC.bel.cell (cell_lt HG7.b.sc.c1)).trans HG7.b.sc.c1;simp [go_sem, hc0, hf0, e125, cc];exact hK gb wz hC (fun _ _ => rfl)
               ·intro gb L wz K ρ hc0 hf0 hF hO hU hcl hi hd hC hK;have d1 : L 1 = true := hd ⟨1, .data⟩ (by simp) rfl;have e122 : ρ (.tmp 122) = .string s := hF 122 1 (by kernel_rfl) d1;have d5 : L 5 = true := hd ⟨5, .data⟩ (by simp) rfl;have e126 : ρ (.tmp 126) = .int .i64 (p4 : Int) := hF 126 5 (by kernel_rfl) d5;simp [go_sem, hc0, hf0, e122, e126, j1, j2];exact hK gb wz hC (fun _ _ => rfl)
               ·intro gb L wz K ρ hc0 hf0 hF hO hU hcl hi hd hC hK;have d0 : L 0 = true := hd ⟨0, .data⟩ (by simp) rfl;have e121 : ρ (.tmp 121) = .agg #[.int .i64 ((tm : Int) + (n1' : Int)), .int .i64 r2, .int .i64 (kd : Int), .string x3, .string ⟨#[]⟩, .int .i64 0] := hF 121 0 (by kernel_rfl) d0;have d6 : L 6 = true := hd ⟨6, .data⟩ (by simp) rfl;have e127 : ρ (.tmp 127) = .string (s.extract p4 s.size) := hF 127 6 (by kernel_rfl) d6;simp [go_sem, hc0, hf0, e121, e127];refine (zrb ((tm : Int) + (n1' : Int), r2, (kd : Int), x3, ⟨#[]⟩, 0) (s.extract p4 s.size) wz hl4 (gW.below hC.bel)).mono ?_;rintro r wn ⟨rfl, hbn⟩;rw [HFL.out];exact ⟨_, rfl, hK gb wn (hC.grow hbn) (by intro j hj; unfold fiV; split <;> first | rfl | (rw [hi] at hj; cases hj) | (have hz := hcl _ 7 (by kernel_rfl) hj; rw [hi] at hz; cases hz))⟩
               ·intro gb L wz K ρ hc0 hf0 hF hO hU hcl hi hd hC hK;have d7 : L 7 = true := hd ⟨7, .data⟩ (by simp) rfl;have e128 : ρ (.tmp 128) = zdb (y, nf, ef) := hF 128 7 (by kernel_rfl) d7;simp [go_sem, hc0, hf0, e128];exact hK gb wz hC (fun _ _ => rfl)
               ·intro gb L wz K ρ hc0 hf0 hF hO hU hcl hi hd hC hK;have d8 : L 8 = true := hd ⟨8, .data⟩ (by simp) rfl;have e120 : ρ (.tmp 120) = zdb (y, nf, ef) := hF 120 8 (by kernel_rfl) d8;simp [go_sem, hc0, hf0, e120, zdb];exact hK gb wz hC (fun _ _ => rfl)
               ·intro gb L wz K ρ hc0 hf0 hF hO hU hcl hi hd hC hK;have d8 : L 8 = true := hd ⟨8, .data⟩ (by simp) rfl;have e120 : ρ (.tmp 120) = zdb (y, nf, ef) := hF 120 8 (by kernel_rfl) d8;simp [go_sem, hc0, hf0, e120, zdb];exact hK gb wz hC (fun _ _ => rfl)
               ·intro gb L wz K ρ hc0 hf0 hF hO hU hcl hi hd hC hK;have d8 : L 8 = true := hd ⟨8, .data⟩ (by simp) rfl;have e120 : ρ (.tmp 120) = zdb (y, nf, ef) := hF 120 8 (by kernel_rfl) d8;simp [go_sem, hc0, hf0, e120, zdb];exact hK gb wz hC (fun _ _ => rfl)
               ·intro gb L wz K ρ hc0 hf0 hF hO hU hcl hi hd hC hK;simp [go_sem, hc0, hf0];have h13 : L 13 = false := by cases h : L 13 with | false => rfl | true => (have := hcl 13 12 (by kernel_rfl) h; rw [hi] at this; cases this)
                rw [hi, h13] at hC;refine hK wz.heap.size _ ?_ (by intro j hj; unfold fiV; split <;> first | rfl | (rw [hi] at hj; cases hj) | (have hz := hcl _ 12 (by kernel_rfl) hj; rw [hi] at hz; cases hz));show FI W11 y _ true (L 13) _;rw [h13];exact hC.make
               ·intro gb L wz K ρ hc0 hf0 hF hO hU hcl hi hd hC hK;have d12 : L 12 = true := hd ⟨12, .data⟩ (by simp) rfl;have e16 : ρ (.tmp 16) = .pointer (some ⟨gb, 0, none⟩) := hF 16 12 (by kernel_rfl) d12;have d9 : L 9 = true := hd ⟨9, .data⟩ (by simp) rfl;have e129 : ρ (.tmp 129) = wrV y.1 y.2.1 y.2.2.1 y.2.2.2.1 y.2.2.2.2.1 y.2.2.2.2.2 := hF 129 9 (by kernel_rfl) d9;rw [d12, hi] at hC;obtain ⟨u0, u1, u2, u3, u4, u5⟩ := hC.no rfl rfl;obtain ⟨m0, m1, m2, m3, m4, m5⟩ := hC.free rfl;simp [go_sem, hc0, hf0, e16, e129, u0, u1, u2, u3, u4, u5, m0, m1, m2, m3, m4, m5];refine hK gb _ ?_ (fun _ _ => rfl);show FI W11 y gb (L 12) true _;rw [d12];exact hC.store
               ·intro gb L wz K ρ hc0 hf0 hF hO hU hcl hi hd hC hK;have d10 : L 10 = true := hd ⟨10, .data⟩ (by simp) rfl;have e130 : ρ (.tmp 130) = .int .i64 (nf : Int) := hF 130 10 (by kernel_rfl) d10;simp [go_sem, hc0, hf0, e130];exact hK gb wz hC (fun _ _ => rfl)
               ·intro gb L wz K ρ hc0 hf0 hF hO hU hcl hi hd hC hK;have d11 : L 11 = true := hd ⟨11, .data⟩ (by simp) rfl;have e131 : ρ (.tmp 131) = errV ef := hF 131 11 (by kernel_rfl) d11;simp [go_sem, hc0, hf0, e131];exact hK gb wz hC (fun _ _ => rfl)
               ·intro g L ch wz h; exact h.elim
               ·intro gb L wz hL hC;simp only [Flow.zbs, fiV];rw [← HA3.out];have hB8 := HG7.b.below hC.bel;have hW8 := hC.yes (hL 13 (by decide));have hRg : R ≠ gb := by have q1 := S.r; have q2 := HG7.b.sz; have q3 := (hC.ge (hL 12 (by decide))).1; omega
                have HFW := fun (e0 : ef = 0) => yin HX6.out (HO3.out.trans (yek (by rw [zxm HX2'.out HX3.out, HFL.out, e0])))
                have HFB := fun (e0 : ef ≠ 0) => zej HX6.out (HO3.out.trans (zwp (by rw [zxm HX2'.out HX3.out]; exact HFL.out) e0)) e0
                clear hC hL HG7 HFL HX6 HO3 HX2' HX3 j1 j2 gW hl4;by_cases he : ef = 0
                ·have HXn := Lib.hid (HFW he);subst he;clear HFW HFB;rw [zak];go_wp2_with fail;refine (check_nil R _).mono ?_;rintro r w2 ⟨rfl, rfl⟩;have w9 : IntKind.i64.wrap ((p4 : Int) + (nf : Int)) = ((p4 + nf : Nat) : Int) := IntWalk.i64_in _ (by omega);have HB9 := hB8.setR S (p4 + nf);have hW9 := hW8.other (C := R) (i := 1) hRg (.int .i64 ((p4 + nf : Nat) : Int));rw [Int.natCast_add] at HB9 hW9;have HA9 := HB9.below (zaa (wz.setCell ⟨R, 1, none⟩ (.int .i64 ((p4 : Int) + (nf : Int)))) (.cells #[.int .i64 y.1, .int .i64 y.2.1, .int .i64 y.2.2.1, .string y.2.2.2.1, .string y.2.2.2.2.1, .int .i64 y.2.2.2.2.2] 53));have hsz9 := HB9.sz;have hce := zpz (wz.setCell ⟨R, 1, none⟩ (.int .i64 ((p4 : Int) + (nf : Int)))) #[.int .i64 y.1, .int .i64 y.2.1, .int .i64 y.2.2.1, .string y.2.2.2.1, .string y.2.2.2.2.1, .int .i64 y.2.2.2.2.2] 53;rw [show (wz.setCell ⟨R, 1, none⟩ (.int .i64 ((p4 : Int) + (nf : Int)))).heap.size = wz.heap.size by simp] at hce hsz9;have hws60 : ws.length ≤ 60 := by have := HAr.out.2.1; omega
                 have m2' := HB9.bt.c2;have m3' := HA9.bt.c2;obtain ⟨x0', x1', x2', x3', x4', x5'⟩ := hW9;obtain ⟨l0, l1, l2⟩ := hB8.sc;clear hB8 hW8;go_wp2_with (first
                  | (at_builtin; refine wpList_append_own _ rfl (.tmp 144) (.tmp 146) 23 rfl B 53 k0 (.agg #[.int .i64 0, .int .i64 0, .int .i64 0, .string ⟨#[]⟩, .string ⟨#[]⟩, .int .i64 0]) 6 64 Tryz.underlying23 hk0 hx0 hx1 hx2 rfl (by decide) v2 ws.length (wrsV ws) rfl HA9.ws ⟨wz.heap.size, 0, none⟩ 1 1 (zbb y) rfl rfl hce (by intro u hu; simp [zbb] at hu; rcases hu with rfl | rfl | rfl | rfl | rfl | rfl <;> rfl) (by unfold maxLen; omega) (by omega) (by simp; omega) ?_; intro v5 w5 hT5 hg5 _; obtain ⟨A5, c5, rfl⟩ := zah hT5; have HL9 := HA9.yab S hg5 (zju rfl hT5); have bb5 := zaj (Below.refl B _) hg5 HA9.sz HA9.ws; have m4 := HA9.bt.keep bb5 S.o S.e; obtain ⟨_, _, y2', _, _, _, y6', _⟩ := m4))
                 clear x0' x1' x2' x3' x4' x5' l0 l1 l2 m2' m3' HB9 HA9;have w2'' : IntKind.i64.wrap ((d : Int) + 1) = ((d + 1 : Nat) : Int) := IntWalk.i64_in _ (by omega);have hAr' := Lib.hid (show (a ++ [(n3 : Int)]).length = d + 1 ∧ (ws ++ [y]).length = d + 1 ∧ ∀ x ∈ a ++ [(n3 : Int)], 0 ≤ x ∧ x ≤ 60 from ⟨by rw [List.length_append, HAr.out.1]; rfl, by rw [List.length_append, HAr.out.2.1]; rfl, fun x hx => by
                  rcases List.mem_append.1 hx with hx | hx
                  ·exact HAr.out.2.2 x hx
                  ·rw [List.mem_singleton.1 hx]; omega⟩)
                 go_wp2;go_roundw
                 case rel => exact ⟨d + 1, c', p4 + nf, tm + n1', a ++ [(n3 : Int)], ws ++ [y], .slice A5 (ws.length + 1) c5, by go_num, by rw [Int.natCast_add], hdc', ht2, hfar, HXn, hAr', HL9⟩
                 case measure => simp [intOf]; omega
                ·have HV := Lib.hid (HFB he);have HE := Lib.hid he;clear HFW HFB;go_wp2_with fail;refine (zdi (zfz _ ef) he (hg.below hB8.bel) hB8.sc).mono ?_;rintro r w2 ⟨rfl, hb2⟩;have hZ := hB8.below hb2;go_wp2;exact zcg HV.out HE.out hZ.bt S.oe S.lo S.le hZ.bel rfl rfl
              ·have HV := Lib.hid (zej HX6.out (HO2.out.trans (zwn hv he)) he);have HE := Lib.hid he;have hZ := HG4.below hb1;clear hv he;go_wp2;exact zcg HV.out HE.out hZ.b.bt S.oe S.lo S.le hZ.b.bel rfl rfl
             ·have HV := Lib.hid (zej HX6.out (HO1.out.trans (zya hv he)) he);have HE := Lib.hid he;have hZ := HG1.below hb1;clear hv he;go_wp2;exact zcg HV.out HE.out hZ.b.bt S.oe S.lo S.le hZ.b.bel rfl rfl
           ·have HV := Lib.hid (zej HX6.out (HO.out.trans (zsz hv he)) he);have HE := Lib.hid he;have hZ := HG.below hb1;clear hv he;go_wp2;exact zcg HV.out HE.out hZ.b.bt S.oe S.lo S.le hZ.b.bel rfl rfl
         ·have t0 : decide ((d : Int) < (m2 : Int)) = false := decide_eq_false (by omega);have t0' : decide (d < m2) = false := by simpa using hlt
          obtain rfl : c = 0 := by omega
          have HX6 := Lib.hid (yfh HX5.out);have k1 := HL.sc.c1;clear HX5 hlt hdc;by_cases hlt : p < s.size
          ·have t1 : decide ((p : Int) < (s.size : Int)) = true := decide_eq_true (by omega);have t1' : decide (p < s.size) = true := by simpa using hlt
           have HV := Lib.hid (zrp HX6.out hlt);clear hlt;go_wp2_with fail;refine (zdi (.bare 3 (by omega)) (by omega) gR HL.sc).mono ?_;rintro r w1 ⟨rfl, hb1⟩;have hZ := HL.below hb1;go_wp2;exact zcg HV.out (by omega) hZ.bt S.oe S.lo S.le hZ.bel rfl rfl
          ·have t1 : decide ((p : Int) < (s.size : Int)) = false := decide_eq_false (by omega);have t1' : decide (p < s.size) = false := by simpa using hlt
           obtain rfl : p = s.size := by omega
           have HNL := Lib.hid hlt;obtain ⟨A4, c4, rfl⟩ := zah HL.a;have ha60 : a.length ≤ 60 := by have := HAr.out.1; omega
           clear hlt i1 i2;go_wp2_with fail;refine (ybi T.length c3 a.length c4 A3 A4 T a wr (ydk (Sl.zbf HL.t)) (ydg (Sl.zbf HL.a)) (by omega) (by omega) HTs.out (fun x hx => by have := HAr.out.2.2 x hx; omega)).mono ?_;rintro r w1 ⟨v, ex, rfl, _, hex, hb1⟩;have HL1 := HL.below hb1;have hex2 := hex.ymw (u := ex) HL1.bt.ce;have HB2 := HL1.bt.setE S.oe ex;have sc2 : Sc (w1.setCell ⟨E, 0, none⟩ ex) R s s.size := ⟨zam HL1.sc.c0 (Ne.symm S.re), zam HL1.sc.c1 (Ne.symm S.re), by simpa using HL1.sc.f1⟩;have F2 := zab (s := E) (j := 0) ex HL1.f S.e;have H2 := zab (s := E) (j := 0) ex HL1.h S.e;have W2 := zab (s := E) (j := 0) ex HL1.ws S.e;have b2 := HL1.bel.setCell (p := ⟨E, 0, none⟩) S.le ex;have l0 := HL1.bt.ce;have l1 := HL1.bt.fe;have l2 := HB2.ce;clear k1 HL1 HL hb1;by_cases he : (zgn T a).2.1 = 0
           ·obtain rfl := zxl hex he;clear hex hex2;go_wp2_with fail;clear l0 l1 l2;generalize w1.setCell ⟨E, 0, none⟩ .nilIface = W2' at *;refine (check_nil R _).mono ?_;rintro r w3 ⟨rfl, rfl⟩;have HB2' := HB2;obtain ⟨l0, l1, l2, l3, _, _, _, _⟩ := HB2';obtain ⟨A5, c5, rfl⟩ := zah W2;have hcap := zhi F2;have hcap2 := zhi H2;have hbat : Bat W2' ⟨A1, f.length, c1, A2, h.length, c2, A5, ws.length, c5, f, h, ws⟩ := ⟨Sl.zbf F2, Sl.zbf H2, Sl.zbf W2, by show f.length ≤ maxLen; have := HF.out.1; unfold maxLen; omega, by show h.length ≤ maxLen; have := HH.out.1; unfold maxLen; omega, by show ws.length ≤ maxLen; have := HAr.out.2.1; unfold maxLen; omega⟩;go_wp2_with fail;refine (zif W2' ⟨A1, f.length, c1, A2, h.length, c2, A5, ws.length, c5, f, h, ws⟩ hbat HF.out.2 HH.out.2 (hg.below b2)).mono ?_;rintro r w4 ⟨ev, rfl, hev, hb4⟩;have HB4 := HB2.below hb4;have sc4 := sc2.below hb4;have b4 := b2.trans (hb4.mono b2.size);have F4 := own_below F2 hb4;have H4 := own_below H2 hb4;have W4' := own_below W2 hb4;clear l0 l1 l2 l3 hbat F2 H2 W2 hb4 sc2 b2;unfold zck at hev;by_cases hb : (zbd f h ws).1 = 0
            ·obtain rfl := zxl hev hb;have HV := Lib.hid (ybg HX6.out HNL.out he hb);clear hev hb he;go_wp2_with fail;refine (check_nil R _).mono ?_;rintro r w3 ⟨rfl, rfl⟩;have P0 := HB4.set0 S.oe (.slice A1 f.length c1);have P1 := P0.set1 S.oe (.slice A2 h.length c2);have P2 := P1.set2 S.oe (.slice A5 ws.length c5);have P3 := P2.setE S.oe .nilIface;have F5 := zab (s := E) (j := 0) .nilIface (zab (s := w.heap.size) (j := 2) (.slice A5 ws.length c5) (zab (s := w.heap.size) (j := 1) (.slice A2 h.length c2) (zab (s := w.heap.size) (j := 0) (.slice A1 f.length c1) F4 S.o) S.o) S.o) S.e;have H5 := zab (s := E) (j := 0) .nilIface (zab (s := w.heap.size) (j := 2) (.slice A5 ws.length c5) (zab (s := w.heap.size) (j := 1) (.slice A2 h.length c2) (zab (s := w.heap.size) (j := 0) (.slice A1 f.length c1) H4 S.o) S.o) S.o) S.e;have W5' := zab (s := E) (j := 0) .nilIface (zab (s := w.heap.size) (j := 2) (.slice A5 ws.length c5) (zab (s := w.heap.size) (j := 1) (.slice A2 h.length c2) (zab (s := w.heap.size) (j := 0) (.slice A1 f.length c1) W4' S.o) S.o) S.o) S.e;have bZ := (((b4.setCell (p := ⟨w.heap.size, 0, none⟩) S.lo (.slice A1 f.length c1)).setCell (p := ⟨w.heap.size, 1, none⟩) S.lo (.slice A2 h.length c2)).setCell (p := ⟨w.heap.size, 2, none⟩) S.lo (.slice A5 ws.length c5)).setCell (p := ⟨E, 0, none⟩) S.le .nilIface;have a1 := P0.c1;have a2 := P1.c2;have a3 := P2.ce;obtain ⟨l0, l1, l2, l3, m0, m1, m2', m3⟩ := HB4;clear P0 P1 P2 F4 H4 W4';go_wp2;clear l0 l1 l2 l3 m0 m1 m2' m3 a1 a2 a3;generalize (((w4.setCell ⟨w.heap.size, 0, none⟩ (.slice A1 f.length c1)).setCell ⟨w.heap.size, 1, none⟩ (.slice A2 h.length c2)).setCell ⟨w.heap.size, 2, none⟩ (.slice A5 ws.length c5)).setCell ⟨E, 0, none⟩ .nilIface = WZ at *;refine leaves_cons (f := 102) (args := #[.pointer (some ⟨w.heap.size, 0, none⟩), .pointer (some ⟨E, 0, none⟩)]) (by simp) (by simp [go_sem]) ?_;refine (yjs w.heap.size E WZ).mono ?_;rintro e' u' w' ⟨rfl, rfl, rfl⟩;show Leaves _ _ _ _ [] .returning _;obtain ⟨z0, z1, z2, z3, _, _, _, _⟩ := P3;refine ⟨.tuple #[.agg #[.slice A1 f.length c1, .slice A2 h.length c2, .slice A5 ws.length c5], .nilIface], by simp [results, Tryz.results57, go_sem, z0, z1, z2, z3], ⟨A1, f.length, c1, A2, h.length, c2, A5, ws.length, c5, f, h, ws⟩, .nilIface, rfl, ⟨Sl.zbf F5, Sl.zbf H5, Sl.zbf W5', by show f.length ≤ maxLen; have := HF.out.1; unfold maxLen; omega, by show h.length ≤ maxLen; have := HH.out.1; unfold maxLen; omega, by show ws.length ≤ maxLen; have := HAr.out.2.1; unfold maxLen; omega⟩, by rw [HV.out], ⟨hcap, hcap2⟩, by rw [HV.out]; exact .none, bZ⟩
            ·have HV := Lib.hid (zwi HX6.out HNL.out he hb);have HE := Lib.hid hb;obtain ⟨t, u, rfl⟩ := ztx hev hb;clear he;go_wp2_with fail;refine (zdi hev hb (hg.below b4) sc4).mono ?_;rintro r w3 ⟨rfl, hb3⟩;have hZ := HB4.below hb3;go_wp2;exact zcg HV.out HE.out hZ S.oe S.lo S.le (b4.trans (hb3.mono b4.size)) rfl rfl
           ·have HV := Lib.hid (zsa HX6.out HNL.out he);have HE := Lib.hid he;obtain ⟨t, u, rfl⟩ := ztx hex he;clear hex;go_wp2_with fail;refine (zdi hex2 he (hg.below b2) sc2).mono ?_;rintro r w3 ⟨rfl, hb3⟩;have hZ := HB2.below hb3;go_wp2;exact zcg HV.out HE.out hZ S.oe S.lo S.le (b2.trans (hb3.mono b2.size)) rfl rfl
       ·have HV := Lib.hid (zsw HX3.out hv he);have HE := Lib.hid he;have hZ := HL.below hb1;clear hv he;go_wp2;exact zcg HV.out HE.out hZ.bt S.oe S.lo S.le hZ.bel rfl rfl
    ·have HV := Lib.hid (zwq HX1.out hv he);have HE := Lib.hid he;have hZ := HL3.below hb1;clear hv he;go_wp2;exact zcg HV.out HE.out hZ.bt S.oe S.lo S.le hZ.bel rfl rfl
   ·have HV := Lib.hid (zuf HX0.out hv he);have HE := Lib.hid he;have hZ := HL1.below hb1;clear hv he;go_wp2;exact zcg HV.out HE.out hZ.bt S.oe S.lo S.le hZ.bel rfl rfl
  ·have HV := Lib.hid (zot HB.out hv he);have HE := Lib.hid he;have hZ := HL.below hb1;clear hv he;go_wp2;exact zcg HV.out HE.out hZ.bt S.oe S.lo S.le hZ.bel rfl rfl
end Go.Proofs.YtkejlnjnoiidnaaGreatDoor
end
