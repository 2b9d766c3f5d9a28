/- old.Read says what oread says. Printed by gen_oread.py. -/
import Derived.Test.YtkejlnjnoiidnaaGreatDoorZ19
import Derived.Test.YtkejlnjnoiidnaaGreatDoorZ6
import Derived.Test.YtkejlnjnoiidnaaGreatDoorZ15
import Derived.Test.YtkejlnjnoiidnaaGreatDoorZ18
import Derived.Test.YtkejlnjnoiidnaaGreatDoorZ11
import Derived.Test.YtkejlnjnoiidnaaGreatDoorZ13
import Derived.Test.YtkejlnjnoiidnaaGreatDoorZ3
import Derived.Test.YtkejlnjnoiidnaaGreatDoorZ14
import Derived.Laws.OwnMore
set_option linter.unusedSimpArgs false
set_option linter.unusedVariables false
section
namespace Go.Proofs.YtkejlnjnoiidnaaGreatDoor
open Go.RowKit As
theorem yfq {v : Int} (h : v = 1 ∨ v = 2 ∨ v = 3) : (v = 1 ∧ (v == 2) = false ∧ (v == 3) = false) ∨ (v = 2 ∧ (v == 2) = true) ∨ (v = 3 ∧ (v == 2) = false ∧ (v == 3) = true) := by
 rcases h with rfl | rfl | rfl
 ·exact .inl ⟨rfl, rfl, rfl⟩
 ·exact .inr (.inl ⟨rfl, rfl⟩)
 ·exact .inr (.inr ⟨rfl, rfl, rfl⟩)
theorem Tk.new (w : World) (T : ByteArray) : Tk (w.alloc (.cells #[.string T, .nilIface] 88)) w.heap.size T 0 :=
 ⟨by rw [World.cell?_alloc_at _ _ _ _ rfl]; rfl, by rw [World.cell?_alloc_at _ _ _ _ rfl]; rfl, by simp, by simp⟩
theorem yok {w0 w2 w4 : World} {O : Nat} {a b : Obj} (h1 : w0.heap.size ≤ w2.heap.size) (h2 : O < w2.heap.size) (h3 : w0.heap.size ≤ O) (h4 : (w2.alloc a).heap.size ≤ w4.heap.size) (h5 : (0 : Nat) < w0.heap.size) : OS w0 w2.heap.size w4.heap.size O (w2.alloc a).heap.size (w4.alloc b).heap.size := by
 simp only [World.size_alloc] at h4 ⊢;refine ⟨by omega, by omega, by omega, by omega, by omega, by omega, by omega, by omega, by omega, by omega, by omega, ?_, ?_, by omega, by omega, h5⟩
 ·exact Nat.ne_of_lt (Nat.lt_of_lt_of_le h5 h1)
 ·exact Nat.ne_of_lt (Nat.lt_of_lt_of_le h5 (by omega))
structure OrL (a b c : Nat) : Prop where
 a : a ≤ maxLen
 b : b ≤ maxLen
 c : c ≤ maxLen
theorem ylz {w : World} {v x : Value} {e p : Int} {B : Nat} (h : zbo w v e p) (hc : w.cell? ⟨B, 1, none⟩ = some .nilIface) : zbo (w.setCell ⟨B, 1, none⟩ x) v e p := by
 cases h with
 | none => exact .none
 | bare _ he => exact .bare _ he
 | at_ b o _ _ he h0 h1 => exact .at_ b o _ _ he (zhd h0 hc (by simp)) (zhd h1 hc (by simp))
theorem yhk {k m : Nat} (h : m = k) (h3 : (k : Int) ≤ 60) : m ≤ 60 := by omega
theorem ygm {T : ByteArray} {p : Nat} (h : ¬ p < T.size) : (rest T p).toList.isEmpty = true := by rw [zcf, zeg]; simp only [decide_eq_true_eq]; omega
theorem yni {k m n : Nat} (h : m = k) (h2 : k < n) (h3 : (n : Int) ≤ 60) : m + 1 ≤ 2 ^ 63 - 1 ∧ (m + 1) * 64 ≤ 140737488355328 := by omega
theorem zsf {T : ByteArray} {f h : List Ent} {n k p : Nat} {ws : List Wr} (hk : k < n) : zbk T f h (n - k) p ws = zfg T p fun y q => zbk T f h (n - (k + 1)) q (ws ++ [y]) := by
 rw [show n - k = (n - (k + 1)) + 1 by omega];rfl
def orV (B Q : Nat) (A2 : Option Addr) (n2 c2 : Nat) (g : Wr × Nat × Value) : Nat → Value
 | 0 => .pointer (some ⟨Q, 2, none⟩)
 | 1 => .slice A2 n2 c2
 | 2 => .pointer (some ⟨B, 0, none⟩)
 | 3 => wrV g.1.1 g.1.2.1 g.1.2.2.1 g.1.2.2.2.1 g.1.2.2.2.2.1 g.1.2.2.2.2.2
 | 4 => .slice (some ⟨g.2.1, 0, none⟩) 1 1
 | 5 => g.2.2
 | 6 => .pointer (some ⟨Q, 2, none⟩)
 | _ => undef
theorem yfb {T : ByteArray} : rest T 0 = T := ByteArray.extract_zero_size
set_option maxHeartbeats 8000000 in
set_option maxRecDepth 100000 in
theorem zwc (s : ByteArray) (w : World) (hs : s.size ≤ 1000000) (hg : zbh w) :
  Calls Tryz.prog 17 #[.string s] w fun e w' => REnd (zgz s) w e w' := by
 obtain ⟨k0, hk0, hx0, hx1, hx2⟩ := info_parts bdWr;have hO := O3.new w nilS nilS nilS 25;have b0 := zaa w (.cells #[nilS, nilS, nilS] 25);go_enter Tryz.func17, Tryz.ntmps17;go_wp2_with fail;refine (zfq s _ hs).mono ?_;rintro r w1 ⟨rfl, hb1⟩;replace hO := hO.below hb1;have b1 := b0.trans (hb1.mono b0.size);have lt := cell_lt hO.c0;generalize hOO : w.heap.size = O at hO lt;have LO := Lib.hid (Nat.le_of_eq hOO);have LT := Lib.hid lt;obtain ⟨⟨v, e⟩, hy⟩ : ∃ y, fver s = y := ⟨_, rfl⟩;have HY := Lib.hid hy;rw [hy];clear hy b0 hb1 hOO lt;simp only;by_cases he : e = 0
 ·subst he;have HG := Lib.hid (zgd HY.out);obtain ⟨T, hT⟩ : ∃ T, T = s.extract 3 (s.size - 4) := ⟨_, rfl⟩;have HT := Lib.hid hT;have hTs : T.size ≤ 1000000 := by rw [hT]; exact ybb hs
  have hin : znu s = (T, 0) := by rw [hT]; unfold znu; rw [HY.out, if_neg (by simp)]
  have HIN := Lib.hid hin;rw [zak];clear hT hin;go_wp2_with fail;refine (zvb s _ hs).mono ?_;rintro r w2 ⟨rfl, hb2⟩;rw [HIN.out];simp only;rw [zak];have b2 := b1.trans (hb2.mono b1.size);replace hO := hO.below hb2;have LT2 := Lib.hid (Nat.lt_of_lt_of_le LT.out hb2.size);clear hb2 b1;rcases yfq HG.out.2.2.1 with ⟨rfl, d2, d3⟩ | ⟨rfl, d2⟩ | ⟨rfl, d2, d3⟩
  ·have HX := Lib.hid (zrr HY.out);obtain ⟨X, hX⟩ : ∃ X, X = zgz s := ⟨_, rfl⟩;have HXX := Lib.hid hX;have hXo : X = oall T := by rw [hX, HX.out, ← HT.out]
   have tk0 := Tk.new w2 T;have bB := zaa w2 (.cells #[.string T, .nilIface] 88);have hT0 : TkAt T _ w2.heap.size X (fun p => ovec T p fun f p => ovec T p fun h p => onum T p 60 fun n p => zbk T f h n p []) := .inl ⟨0, Nat.zero_le _, by rw [yfb]; exact tk0, hXo⟩;have b3 := b2.trans (bB.mono b2.size);replace hO := hO.below bB;clear hX hXo tk0;go_wp2_with fail;refine (tvec T w2.heap.size _ X _ hTs hT0).mono ?_;rintro q w4 ⟨v0, f, rfl, hF, hf16, hff, hg4, hT4⟩;obtain ⟨A0, c0, rfl⟩ := zah hF;have tB := O3.new w4 (.slice A0 f.length c0) nilS nilS 25;have bQ := zaa w4 (.cells #[.slice A0 f.length c0, nilS, nilS] 25);have OSS := Lib.hid (yok (w0 := w) (w2 := w2) (w4 := w4) (O := O) (a := (.cells #[.string T, .nilIface] 88)) (b := (.cells #[.slice A0 f.length c0, nilS, nilS] 25)) b2.size LT2.out LO.out hg4.size (cell_lt hg));have hg5 := zcp hg4 (grown_of bQ _);have hT5 := hT4.below bQ;have hF5 := own_below hF bQ;have hoff := fun k e => Nat.ne_of_lt (hF.lt k e).2
   have b5 := b3.trans ((Below.refl w.heap.size _).grown hg5 b3.size (fun k e => by injection e with e; have := b2.size; omega));replace hO := hO.grown hg5 (fun e => OSS.out.OB (Option.some.inj e).symm);clear hT4 hg4 hF bQ hT0 b3 bB hg5;go_wp2_with fail;refine (tvec T w2.heap.size _ X _ hTs hT5).mono ?_;rintro q w6 ⟨v1, h, rfl, hH, hh16, hhf, hg6, hT6⟩;obtain ⟨A1, c1, rfl⟩ := zah hH;have hT7 := hT6.nb (C := w4.heap.size) (i := 1) OSS.out.QB (.slice A1 h.length c1);have tB6 := tB.grown hg6 (fun e => OSS.out.QB (Option.some.inj e).symm);have b7 := (b5.trans ((Below.refl w.heap.size _).grown hg6 b5.size (fun k e => by injection e with e; have := b2.size; omega))).setCell (p := ⟨w4.heap.size, 1, none⟩) OSS.out.lQ (.slice A1 h.length c1);have ol : OL w w2.heap.size w4.heap.size O _ _ (.slice A0 f.length c0) (.slice A1 h.length c1) nilS f h [] (w6.setCell ⟨w4.heap.size, 1, none⟩ (.slice A1 h.length c1)) :=
    ⟨tB6.s1 _, (hO.grown hg6 (fun e => OSS.out.OB (Option.some.inj e).symm)).nb OSS.out.QO _, zjv (w' := w6) (zik hF5 hg6 OSS.out.B1) hoff, zjv (w' := w6) hH (fun k e => Nat.ne_of_gt (Nat.lt_of_lt_of_le OSS.out.Q2 (hH.lt k e).1)), World.ownsRow_nil _ _ _ _, hoff, hg.below b7, b7, by simpa using hg6.size⟩
   obtain ⟨x0, x1, x2, xf0, xf1, xf2⟩ := tB6;clear hT5 hT6 hg6 hH hF5 tB b5 b7 hO;go_wp2_with fail;refine (tnum T w2.heap.size 60 _ X _ hTs (by decide) (by decide) hT7).mono ?_;rintro q w8 ⟨n, rfl, hn, hg8, hT8⟩;replace ol := ol.grown OSS.out hg8;have HN := Lib.hid hn;generalize (w2.alloc (.cells #[.string T, .nilIface] 88)).heap.size = N1 at *;generalize (w4.alloc (.cells #[.slice A0 f.length c0, nilS, nilS] 25)).heap.size = N2 at *;clear hT7 hg8 x0 x1 x2 xf0 xf1 xf2 hn;go_wp2;go_loopw [46] (fun kv wr => ∃ (k : Nat) (v2 : Value) (ws : List Wr), k ≤ n ∧ ws.length = k ∧ kv = .int .i64 k ∧ OL w w2.heap.size w4.heap.size O N1 N2 (.slice A0 f.length c0) (.slice A1 h.length c1) v2 f h ws wr ∧ TkAt T wr w2.heap.size X (fun p => zbk T f h (n - k) p ws)) (fun kv _ => n - (intOf kv).toNat)
   case atStart => exact ⟨0, nilS, [], Nat.zero_le _, rfl, rfl, ol, hT8⟩
   case round =>
    clear ol hT8;obtain ⟨k, v2, ws, hk, hws, rfl, ol, hT⟩ := hrel;by_cases hlt : k < n
    ·obtain ⟨jd1, jd2⟩ := zgv hlt;obtain ⟨jw1, jw2⟩ := zqv (j := k) (by have := HN.out; omega);have HLT := Lib.hid hlt;have HWS := Lib.hid hws;have HCP := Lib.hid (yni hws hlt HN.out);have hTW : TkAt T wr w2.heap.size X (fun p => zfg T p fun y q => zbk T f h (n - (k + 1)) q (ws ++ [y])) := hT.is (fun p => zsf hlt);obtain ⟨A2, c2, rfl⟩ := zah ol.ws;clear hT hlt hk hws;go_wp2_with fail;refine Flow.zan (by kernel_rfl) (by kernel_rfl) (by kernel_rfl) 95 rfl (by kernel_rfl) (orV w2.heap.size w4.heap.size A2 ws.length c2) (fun g L wz => OX w w2.heap.size w4.heap.size O N1 N2 (.slice A0 f.length c0) (.slice A1 h.length c1) (.slice A2 ws.length c2) f h ws T X (fun y q => zbk T f h (n - (k + 1)) q (ws ++ [y])) g (L 3) (L 4) (L 5) (L 7) wz) (fun _ _ => False) ((noWr, 0, undef)) ((OX.new (ol.below OSS.out (Below.refl _ _).drew) (hTW.below (Below.refl _ _).drew) _)) ⟨?_, ?_, ?_, ?_, ?_, ?_, ?_, ?_, trivial⟩ ?_ ?_
     ·intro g L wz K ρ hc0 hf0 hF hO hU hcl hi hd hC hK;have e9 : ρ (.tmp 9) = .pointer (some ⟨w4.heap.size, 0, none⟩) := hO 9 (by kernel_rfl);simp [go_sem, hc0, hf0, e9];exact hK g wz hC (fun _ _ => rfl)
     ·intro g L wz K ρ hc0 hf0 hF hO hU hcl hi hd hC hK;have d0 : L 0 = true := hd ⟨0, .data⟩ (by simp) rfl;have e48 : ρ (.tmp 48) = .pointer (some ⟨w4.heap.size, 2, none⟩) := hF 48 0 (by kernel_rfl) d0;have h5 : L 5 = false := by cases h : L 5 with | false => rfl | true => (have := hcl 5 1 (by kernel_rfl) h; rw [hi] at this; cases this)
      have cc := (hC.pre h5).bx.c2;simp [go_sem, hc0, hf0, e48, cc];exact hK g wz hC (fun _ _ => rfl)
     ·intro g L wz K ρ hc0 hf0 hF hO hU hcl hi hd hC hK;have e8 : ρ (.tmp 8) = .pointer (some ⟨w2.heap.size, 0, none⟩) := hO 8 (by kernel_rfl);simp [go_sem, hc0, hf0, e8];exact hK g wz hC (fun _ _ => rfl)
     ·intro g L wz K ρ hc0 hf0 hF hO hU hcl hi hd hC hK;have d2 : L 2 = true := hd ⟨2, .data⟩ (by simp) rfl;have e50 : ρ (.tmp 50) = .pointer (some ⟨w2.heap.size, 0, none⟩) := hF 50 2 (by kernel_rfl) d2;simp [go_sem, hc0, hf0, e50];obtain ⟨h4, h5, h7⟩ := (hi ▸ hC).flags;have hC' : OX w w2.heap.size w4.heap.size O N1 N2 (.slice A0 f.length c0) (.slice A1 h.length c1) (.slice A2 ws.length c2) f h ws T X (fun y q => zbk T f h (n - (k + 1)) q (ws ++ [y])) g false false false false wz := by rw [hi, h4, h5, h7] at hC; exact hC
      refine (ylb T w2.heap.size wz X _ hTs (hC'.pre rfl).hd (hC'.tk0 rfl)).mono ?_;rintro q wn ⟨y, rfl, hgn, htn⟩;exact ⟨_, rfl, hK (y, g.2) wn (by show OX _ _ _ _ _ _ _ _ _ _ _ _ _ _ _ _ true (L 4) (L 5) (L 7) _; rw [h4, h5, h7]; exact hC'.read OSS.out hgn htn) (by intro j hj; unfold orV; split <;> first | rfl | (rw [hi] at hj; cases hj) | (have hz := hcl _ 3 (by kernel_rfl) hj; rw [hi] at hz; cases hz))⟩
     ·intro g L wz K ρ hc0 hf0 hF hO hU hcl hi hd hC hK;have d3 : L 3 = true := hd ⟨3, .data⟩ (by simp) rfl;have e51 : ρ (.tmp 51) = wrV g.1.1 g.1.2.1 g.1.2.2.1 g.1.2.2.2.1 g.1.2.2.2.2.1 g.1.2.2.2.2.2 := hF 51 3 (by kernel_rfl) d3;obtain ⟨h5, h7⟩ := (hi ▸ hC).ynv;simp [go_sem, hc0, hf0, e51];rw [d3, hi, h5, h7] at hC;refine hK (g.1, wz.heap.size, g.2.2) _ ?_ (by intro j hj; unfold orV; split <;> first | rfl | (rw [hi] at hj; cases hj) | (have hz := hcl _ 4 (by kernel_rfl) hj; rw [hi] at hz; cases hz));show OX _ _ _ _ _ _ _ _ _ _ _ _ _ _ _ _ (L 3) true (L 5) (L 7) _;rw [d3, h5, h7];exact hC.build OSS.out
     ·intro g L wz K ρ hc0 hf0 hF hO hU hcl hi hd hC hK;have d1 : L 1 = true := hd ⟨1, .data⟩ (by simp) rfl;have e49 : ρ (.tmp 49) = .slice A2 ws.length c2 := hF 49 1 (by kernel_rfl) d1;have d4 : L 4 = true := hd ⟨4, .data⟩ (by simp) rfl;have e52 : ρ (.tmp 52) = .slice (some ⟨g.2.1, 0, none⟩) 1 1 := hF 52 4 (by kernel_rfl) d4;have h7 := (hi ▸ hC).ymq;have hpre := hC.pre hi;have htmp := hC.tmp d4 hi;obtain ⟨v', wn, hrun, ho, hgw, _⟩ := run_append_own (P := Tryz.prog) wz N2 23 23 53 k0 (.agg #[.int .i64 0, .int .i64 0, .int .i64 0, .string ⟨#[]⟩, .string ⟨#[]⟩, .int .i64 0]) 6 64 Tryz.underlying23 hk0 hx0 hx1 hx2 rfl (by decide) (.slice A2 ws.length c2) ws.length (wrsV ws) hpre.ws ⟨g.2.1, 0, none⟩ 1 1 (zbb g.1) rfl (yhr htmp) yna HCP.out.1 HCP.out.2 hpre.sz;have ho' := zju rfl ho;unfold execOp;simp only [resolve, invoke, builtin, Sem.run_bind, Sem.run_pure, Result.andThen_ok, List.map_toArray, List.map_cons, List.map_nil, e49, e52, hrun];have d3 : L 3 = true := hC.o4 d4;rw [d3, d4, hi, h7] at hC;refine hK (g.1, g.2.1, v') wn ?_ (by intro j hj; unfold orV; split <;> first | rfl | (rw [hi] at hj; cases hj) | (have hz := hcl _ 5 (by kernel_rfl) hj; rw [hi] at hz; cases hz));show OX _ _ _ _ _ _ _ _ _ _ _ _ _ _ _ _ (L 3) (L 4) true (L 7) _;rw [d3, d4, h7];exact hC.append OSS.out hgw ho'
     ·intro g L wz K ρ hc0 hf0 hF hO hU hcl hi hd hC hK;have e9 : ρ (.tmp 9) = .pointer (some ⟨w4.heap.size, 0, none⟩) := hO 9 (by kernel_rfl);simp [go_sem, hc0, hf0, e9];exact hK g wz hC (fun _ _ => rfl)
     ·intro g L wz K ρ hc0 hf0 hF hO hU hcl hi hd hC hK;have d6 : L 6 = true := hd ⟨6, .data⟩ (by simp) rfl;have e54 : ρ (.tmp 54) = .pointer (some ⟨w4.heap.size, 2, none⟩) := hF 54 6 (by kernel_rfl) d6;have d5 : L 5 = true := hd ⟨5, .data⟩ (by simp) rfl;have e53 : ρ (.tmp 53) = g.2.2 := hF 53 5 (by kernel_rfl) d5;have d4 := hC.o5 d5;have d3 := hC.o4 d4;rw [d3, d4, d5, hi] at hC;obtain ⟨mb, ⟨A9, n9, c9, hv9⟩, _⟩ := hC.mid rfl rfl;have a0 := mb.c2;have a1 := mb.f2;rw [hv9] at e53;have hz := hK g _ (show OX _ _ _ _ _ _ _ _ _ _ _ _ _ _ _ _ (L 3) (L 4) (L 5) true _ by rw [d3, d4, d5]; exact hC.store OSS.out) (fun _ _ => rfl);rw [hv9] at hz;simp [go_sem, hc0, hf0, e54, e53, a0, a1];exact hz
     ·intro g L ch wz h; exact h.elim
     ·intro g L wz hL hC;rw [hL 3 (by decide), hL 4 (by decide), hL 5 (by decide), hL 7 (by decide)] at hC;have ol9 := hC.fin rfl;have hT9 := hC.tk1 rfl;simp only [Flow.zbs, orV];go_wp2;go_roundw
      case rel => exact ⟨k + 1, g.2.2, ws ++ [g.1], HLT.out, by rw [List.length_append, HWS.out]; rfl, by go_num, ol9, hT9⟩
      case measure => exact zbx HLT.out
    ·obtain rfl : k = n := Nat.le_antisymm hk (Nat.not_lt.1 hlt);obtain ⟨jd1, jd2⟩ := zha (Nat.lt_irrefl k);have hE : TkAt T wr w2.heap.size X (fun p => oend T f h ws p) := hT.is (fun p => by rw [Nat.sub_self]; rfl);obtain ⟨A2, c2, rfl⟩ := zah ol.ws;clear hT hk hlt;rcases hE with ⟨p, hp, hT, hX⟩ | ⟨r, e, hr, he, hT, hX⟩
     ·have HX9 := Lib.hid hX;clear hX;by_cases hend : p < T.size
      ·have hTl : zbo (wr.setCell ⟨w2.heap.size, 1, none⟩ (errV 3)) (.iface 27 (.int .i64 3)) 3 (-1) := .bare 3 (by decide);have ol3 := ol.grown OSS.out (zbp wr w2.heap.size 1 (errV 3));have d0 : (rest T p).toList.isEmpty = false := by rw [zcf, zeg]; simp only [decide_eq_false_iff_not]; omega
       have HQ := Lib.hid (zto (s := T) (f := f) (h := h) (ws := ws) hend);have hT3 := hT.err 3;obtain ⟨t0, t1, tf0, tf1⟩ := hT;obtain ⟨y0, y1, _, _⟩ := hT3;rw [zak] at t1;rw [show errV 3 = .iface 27 (.int .i64 3) from rfl] at hTl ol3 y0 y1;clear hend hp;go_wp2_with fail;refine (zde hTl ol3.hd).mono ?_;rintro q w9 ⟨rfl, hb9⟩;have b9 := ol3.bel.trans (hb9.mono ol3.bel.size);have hO := ol3.o.below hb9;have hZ := hO.put nilS nilS nilS;have bZ := zay b9 LO.out nilS nilS nilS;obtain ⟨u0, u1, u2, j0, j1, j2⟩ := hO;go_wp2;unfold put3 at hZ bZ;obtain ⟨z0, z1, z2, _, _, _⟩ := hZ;exact bodyPost_ret (v := .tuple #[.agg #[nilS, nilS, nilS], .iface 27 (.int .i64 3)]) (by simp [results, Tryz.results17, go_sem, z0, z1, z2]) rfl (zcz (HXX.out.symm.trans (HX9.out.trans HQ.out)) (.bare 3 (by decide)) bZ)
      ·have d0 := ygm hend;have HEND := Lib.hid hend;have hT0 := hT;obtain ⟨t0, t1, tf0, tf1⟩ := hT;rw [zak] at t1;obtain ⟨b0, b1, b2', bf0, bf1, bf2⟩ := ol.bx;have hll := yhk hws HN.out;have hbat : Bat wr ⟨A0, f.length, c0, A1, h.length, c1, A2, ws.length, c2, f, h, ws⟩ := ⟨Sl.zbf ol.f, Sl.zbf ol.h, Sl.zbf ol.ws, Nat.le_trans hf16 (by unfold maxLen; decide), Nat.le_trans hh16 (by unfold maxLen; decide), Nat.le_trans hll (by unfold maxLen; decide)⟩;have HDD := Lib.hid ol.hd;have HFF := Lib.hid (And.intro hff hhf);have OLL := Lib.hid ol;have HTT := Lib.hid hT0;have HLE := Lib.hid (show f.length ≤ maxLen ∧ h.length ≤ maxLen ∧ ws.length ≤ maxLen from ⟨Nat.le_trans hf16 (by unfold maxLen; decide), Nat.le_trans hh16 (by unfold maxLen; decide), Nat.le_trans hll (by unfold maxLen; decide)⟩);have HBT := Lib.hid hbat;clear hend hp hll hws hT0 hff hhf hf16 hh16 hbat ol hoff;go_wp2_with fail;refine (zif wr ⟨A0, f.length, c0, A1, h.length, c1, A2, ws.length, c2, f, h, ws⟩ HBT.out HFF.out.1 HFF.out.2 HDD.out).mono ?_;rintro q w9 ⟨v9, rfl, hv9, hb9⟩;obtain ⟨⟨eb, pb⟩, hbr⟩ : ∃ x, zbd f h ws = x := ⟨_, rfl⟩;have HBR := Lib.hid hbr;simp only at hv9;rw [hbr] at hv9;have hT9 := HTT.out.grown (grown_of hb9 none) (by simp);obtain ⟨x0, x1, xf0, xf1⟩ := hT9;rw [zak] at x1;have ol9 := OLL.out.below OSS.out hb9;clear hbr t0 t1 tf0 tf1 b0 b1 b2' bf0 bf1 bf2 hb9;by_cases hb : eb = 0
       ·subst hb;obtain ⟨rfl, rfl⟩ := zbo.zero hv9;have ol10 := ol9.grown OSS.out (zbp w9 w2.heap.size 1 .nilIface);have y1 : (w9.setCell ⟨w2.heap.size, 1, none⟩ .nilIface).cell? ⟨w2.heap.size, 1, none⟩ = some .nilIface := World.cell?_setCell_same _ _ _ x1;have HXE := Lib.hid (show zgz s = ((f, h, ws), 0, -1) from HXX.out.symm.trans (HX9.out.trans (ycm HEND.out (by rw [HBR.out]))));have hO := ol10.o;have hZ := hO.put (.slice A0 f.length c0) (.slice A1 h.length c1) (.slice A2 ws.length c2);have bZ := zay ol10.bel LO.out (.slice A0 f.length c0) (.slice A1 h.length c1) (.slice A2 ws.length c2);have OS2 := OSS.out;have R0 := zab (j := 2) (.slice A2 ws.length c2) (zab (j := 1) (.slice A1 h.length c1) (zab (j := 0) (.slice A0 f.length c0) ol10.f OS2.O1) OS2.O1) OS2.O1;have R1 := zab (j := 2) (.slice A2 ws.length c2) (zab (j := 1) (.slice A1 h.length c1) (zab (j := 0) (.slice A0 f.length c0) ol10.h OS2.O2) OS2.O2) OS2.O2;have R2 := zab (j := 2) (.slice A2 ws.length c2) (zab (j := 1) (.slice A1 h.length c1) (zab (j := 0) (.slice A0 f.length c0) ol10.ws OS2.O2) OS2.O2) OS2.O2;have HRR := Lib.hid (And.intro R0 (And.intro R1 R2));have HBZ := Lib.hid bZ;have HLL := Lib.hid (OrL.mk (HLE.out.1) (HLE.out.2.1) (HLE.out.2.2));obtain ⟨b0, b1, b2', bf0, bf1, bf2⟩ := ol10.bx;obtain ⟨u0, u1, u2, j0, j1, j2⟩ := hO;clear ol9 ol10 hv9 bZ R0 R1 R2 OS2;go_wp2;unfold put3 at hZ HBZ;obtain ⟨z0, z1, z2, _, _, _⟩ := hZ;exact bodyPost_ret (v := .tuple #[.agg #[.slice A0 f.length c0, .slice A1 h.length c1, .slice A2 ws.length c2], .nilIface]) (by simp [results, Tryz.results17, go_sem, z0, z1, z2]) rfl ⟨⟨A0, f.length, c0, A1, h.length, c1, A2, ws.length, c2, f, h, ws⟩, .nilIface, rfl, ⟨Sl.zbf HRR.out.1, Sl.zbf HRR.out.2.1, Sl.zbf HRR.out.2.2, HLL.out.a, HLL.out.b, HLL.out.c⟩, by rw [HXE.out], ⟨zhi HRR.out.1, zhi HRR.out.2.1⟩, by rw [HXE.out]; exact .none, HBZ.out⟩
       ·obtain ⟨ty, u, rfl⟩ := zev hv9 hb;have ol10 := ol9.grown OSS.out (zbp w9 w2.heap.size 1 (.iface ty u));have hv10 := ylz (x := .iface ty u) hv9 x1;have y1 : (w9.setCell ⟨w2.heap.size, 1, none⟩ (.iface ty u)).cell? ⟨w2.heap.size, 1, none⟩ = some (.iface ty u) := World.cell?_setCell_same _ _ _ x1;have HXE := Lib.hid (show zgz s = bad0 eb from HXX.out.symm.trans (HX9.out.trans ((zyr HEND.out (by rw [HBR.out]; exact hb)).trans (by rw [HBR.out]))));have HE := Lib.hid hb;clear hb hv9 ol9;go_wp2_with fail;refine (zde hv10 ol10.hd).mono ?_;rintro q w11 ⟨rfl, hb11⟩;have b9 := ol10.bel.trans (hb11.mono ol10.bel.size);have hO := ol10.o.below hb11;have hZ := hO.put nilS nilS nilS;have bZ := zay b9 LO.out nilS nilS nilS;obtain ⟨u0, u1, u2, j0, j1, j2⟩ := hO;go_wp2;unfold put3 at hZ bZ;obtain ⟨z0, z1, z2, _, _, _⟩ := hZ;exact bodyPost_ret (v := .tuple #[.agg #[nilS, nilS, nilS], .iface 27 (.int .i64 eb)]) (by simp [results, Tryz.results17, go_sem, z0, z1, z2]) rfl (zcz HXE.out (.bare eb HE.out) bZ)
     ·obtain ⟨t0, t1, tf0, tf1⟩ := hT;rw [zau he] at t1;have HE := Lib.hid he;have HX9 := Lib.hid hX;have hTl : zbo wr (.iface 27 (.int .i64 e)) e (-1) := .bare e he;clear he hX;go_wp2_with fail;refine (zde hTl ol.hd).mono ?_;rintro q w9 ⟨rfl, hb9⟩;have b9 := ol.bel.trans (hb9.mono ol.bel.size);have hO := ol.o.below hb9;have hZ := hO.put nilS nilS nilS;have bZ := zay b9 LO.out nilS nilS nilS;obtain ⟨u0, u1, u2, j0, j1, j2⟩ := hO;go_wp2;unfold put3 at hZ bZ;obtain ⟨z0, z1, z2, _, _, _⟩ := hZ;exact bodyPost_ret (v := .tuple #[.agg #[nilS, nilS, nilS], .iface 27 (.int .i64 e)]) (by simp [results, Tryz.results17, go_sem, z0, z1, z2]) rfl (zcz (HXX.out.symm.trans HX9.out) (.bare e HE.out) bZ)
  ·have HX := Lib.hid (ztt HY.out);clear d2;go_wp2_with fail;refine (zhv T _ hTs (hg.below b2)).mono ?_;rintro r w5 ⟨x, ve, rfl, hx, hx2, hcap, hev, hb5⟩;have b5 := b2.trans (hb5.mono b2.size);replace hO := hO.below hb5;have hZ := hO.put (.slice x.A x.n x.c) (.slice x.A' x.n' x.c') (.slice x.A'' x.n'' x.c'');have bZ := zay b5 LO.out (.slice x.A x.n x.c) (.slice x.A' x.n' x.c') (.slice x.A'' x.n'' x.c'');have hx8 := zki (a := .slice x.A x.n x.c) (b := .slice x.A' x.n' x.c') (c := .slice x.A'' x.n'' x.c'') hx hO;have hev8 := zjj (a := .slice x.A x.n x.c) (b := .slice x.A' x.n' x.c') (c := .slice x.A'' x.n'' x.c'') hev hO;obtain ⟨u0, u1, u2, j0, j1, j2⟩ := hO;unfold zav.v;go_wp2;unfold put3 at hZ bZ hx8 hev8;obtain ⟨z0, z1, z2, _, _, _⟩ := hZ;exact bodyPost_ret (v := .tuple #[x.v, ve]) (by simp [results, Tryz.results17, go_sem, z0, z1, z2, zav.v]) rfl ⟨x, ve, rfl, hx8, by rw [HX.out, ← HT.out]; exact hx2, hcap, by rw [HX.out, ← HT.out]; exact hev8, bZ⟩
  ·have H := Lib.hid (znf HY.out);clear d2 d3;have hZ := hO.put nilS nilS nilS;have bZ := zay b2 LO.out nilS nilS nilS;obtain ⟨u0, u1, u2, j0, j1, j2⟩ := hO;go_wp2;unfold put3 at hZ bZ;obtain ⟨z0, z1, z2, _, _, _⟩ := hZ;exact bodyPost_ret (v := .tuple #[.agg #[nilS, nilS, nilS], .iface 27 (.int .i64 6)]) (by simp [results, Tryz.results17, go_sem, z0, z1, z2]) rfl (zcz H.out (.bare 6 (by decide)) bZ)
 ·have H := Lib.hid (ztf HY.out he);have HE := Lib.hid he;rw [zau he];clear he;have hZ := hO.put nilS nilS nilS;have bZ := zay b1 LO.out nilS nilS nilS;obtain ⟨u0, u1, u2, j0, j1, j2⟩ := hO;go_wp2;unfold put3 at hZ bZ;obtain ⟨z0, z1, z2, _, _, _⟩ := hZ;exact bodyPost_ret (v := .tuple #[.agg #[nilS, nilS, nilS], .iface 27 (.int .i64 e)]) (by simp [results, Tryz.results17, go_sem, z0, z1, z2]) rfl (zcz H.out (.bare e HE.out) bZ)
end Go.Proofs.YtkejlnjnoiidnaaGreatDoor
end

section
namespace Go.Proofs.YtkejlnjnoiidnaaGreatDoor
section
variable {s : ByteArray}
theorem zfe {p : Nat} {most : Int} {K : Nat → Nat → BR} (h : ∀ n q, zct (K n q)) : zct (onum s p most K) := by
 unfold onum; split
 ·exact .no
 ·exact h _ _
theorem zvu {K : List Ent → Nat → BR} (h : ∀ l q, zct (K l q)) : ∀ (c p : Nat) (acc : List Ent), zct (zhb s c p acc K) := by
 intro c;induction c with
 | zero => intro p acc; exact h _ _
 | succ c ih => intro p acc; exact zfe fun r q => zfe fun t q => ih _ _
theorem zpn {p : Nat} {K : List Ent → Nat → BR} (h : ∀ l q, zct (K l q)) : zct (ovec s p K) := zfe fun n q => zvu h _ _ _
theorem yag {f h : List Ent} {ws : List Wr} {p : Nat} : zct (oend s f h ws p) := by
 unfold oend; split
 ·exact .no
 ·split
  ·exact .no
  ·rename_i h1; intro _; simpa using h1
theorem zux {p : Nat} {x : Wr} {K : Wr → Nat → BR} (h : ∀ y q, zct (K y q)) : zct (zre s p x K) := by
 unfold zre; split
 ·exact .no
 ·exact h _ _
theorem yaj {p t r kd : Nat} {K : Wr → Nat → BR} (h : ∀ y q, zct (K y q)) : zct (okey s p t r kd K) := by
 unfold okey; split
 ·exact .no
 ·exact zux h
theorem zsn {p : Nat} {K : Wr → Nat → BR} (h : ∀ y q, zct (K y q)) : zct (zfg s p K) := by
 unfold zfg; split
 ·exact .no
 ·split
  ·exact .no
  ·exact zfe fun t q => zfe fun r q => yaj h
theorem zqr {f h : List Ent} : ∀ (c p : Nat) (ws : List Wr), zct (zbk s f h c p ws) := by
 intro c;induction c with
 | zero => intro p ws; exact yag
 | succ c ih => intro p ws; exact zsn fun y q => ih _ _
theorem zzd : zct (oall s) := zpn fun f p => zpn fun h p => zfe fun n p => zqr _ _ _
theorem zuw : zct (zgz s) := by
 unfold zgz; split
 ·exact .no
 ·split
  ·exact .no
  ·split
   ·exact zia _
   ·exact zzd
theorem zrk : zct (zdc s) := by
 have hr : ∀ x : BR, zct x → zct (zix s x) := by
  intro x hx; unfold zix; split
  ·exact .no
  ·split
   ·exact .no
   ·exact hx
 have hl : ∀ n t, zct (znz s n t) := by
  intro n t; unfold znz; split
  ·exact .no
  ·exact hr _ (zia _)
 unfold zdc; split
 ·exact .no
 ·split
  ·exact .no
  ·split
   ·exact .no
   ·unfold yhf; split
    ·exact .no
    ·unfold zhr; split
     ·split
      ·exact .no
      ·exact hl _ _
     ·exact hl _ _
end
def oany (s : ByteArray) : BR := if (fver s).2 ≠ 0 then bad0 (fver s).2 else if (fver s).1 = 3 then zdc s else zgz s
theorem zxe {s : ByteArray} {v e : Int} (hv : fver s = (v, e)) (he : e ≠ 0) : oany s = bad0 e := by unfold oany; rw [hv, if_pos he]
theorem zpo {s : ByteArray} (hv : fver s = (3, 0)) : oany s = zdc s := by unfold oany; rw [hv, if_neg (by simp), if_pos rfl]
theorem zxz {s : ByteArray} {v : Int} (hv : fver s = (v, 0)) (h : v ≠ 3) : oany s = zgz s := by unfold oany; rw [hv, if_neg (by simp), if_neg h]
theorem yah (s : ByteArray) : zct (oany s) := by
 unfold oany; split
 ·exact .no
 ·split
  ·exact zrk
  ·exact zuw
theorem zvl {f h : List Ent} {l : List Wr} (hb : (zbd f h l).1 = 0) : (zaf f).1 = 0 ∧ (zaf h).1 = 0 := by
 unfold zbd at hb;by_cases h1 : (zaf f).1 ≠ 0
 ·rw [if_pos h1] at hb; exact absurd hb h1
 ·rw [if_neg h1] at hb;by_cases h2 : (zaf h).1 ≠ 0
  ·rw [if_pos h2] at hb; exact absurd hb h2
  ·exact ⟨by simpa using h1, by simpa using h2⟩
theorem zts {s : ByteArray} (h0 : (oany s).2.1 = 0) : (∀ y ∈ (oany s).1.1, zbe y) ∧ (∀ y ∈ (oany s).1.2.1, zbe y) :=
 have h := zvl (yah s h0)
 ⟨zfv h.1, zfv h.2⟩
def zrt (s : ByteArray) : ByteArray × Int × Int := if (oany s).2.1 ≠ 0 then (⟨#[]⟩, (oany s).2) else zcl (zcb (oany s).1.1 (oany s).1.2.1 (oany s).1.2.2)
theorem zsx {s : ByteArray} {b : List Ent × List Ent × List Wr} {e p : Int} (h : oany s = (b, e, p)) (he : e ≠ 0) : zrt s = (⟨#[]⟩, e, p) := by unfold zrt; rw [h, if_pos he]
theorem zxi {s : ByteArray} {f h : List Ent} {l : List Wr} {p : Int} (hx : oany s = ((f, h, l), 0, p)) : zrt s = zcl (zcb f h l) := by unfold zrt; rw [hx, if_neg (by simp)]
end Go.Proofs.YtkejlnjnoiidnaaGreatDoor
end

section
namespace Go.Proofs.YtkejlnjnoiidnaaGreatDoor
open Go.RowKit As
set_option maxHeartbeats 2000000 in
set_option maxRecDepth 100000 in
theorem ybx (s : ByteArray) (w : World) (hs : s.size ≤ 1000000) (hg : zbh w) :
  Calls Tryz.prog 26 #[.string s] w fun e w' => REnd (oany s) w e w' := by
 have hO := O3.new w nilS nilS nilS 25;have b0 := zaa w (.cells #[nilS, nilS, nilS] 25);go_enter Tryz.func26, Tryz.ntmps26;go_wp2_with fail;refine (zfq s _ hs).mono ?_;rintro r w1 ⟨rfl, hb1⟩;replace hO := hO.below hb1;have b1 := b0.trans (hb1.mono b0.size);obtain ⟨⟨v, e⟩, hy⟩ : ∃ y, fver s = y := ⟨_, rfl⟩;have HY := Lib.hid hy;rw [hy];clear hy b0 hb1;simp only;by_cases he : e = 0
 ·subst he;rw [zak];by_cases h3 : v = 3
  ·subst h3;have HX := Lib.hid (zpo HY.out);go_wp2_with fail;refine (yeh s _ hs (hg.below b1)).mono ?_;rintro r w5 ⟨x, ve, rfl, hx, hx2, hcap, hev, hb5⟩;have b5 := b1.trans (hb5.mono b1.size);replace hO := hO.below hb5;have hZ := hO.put (.slice x.A x.n x.c) (.slice x.A' x.n' x.c') (.slice x.A'' x.n'' x.c'');have bZ := zay b5 (Nat.le_refl _) (.slice x.A x.n x.c) (.slice x.A' x.n' x.c') (.slice x.A'' x.n'' x.c'');have hx8 := zki (a := .slice x.A x.n x.c) (b := .slice x.A' x.n' x.c') (c := .slice x.A'' x.n'' x.c'') hx hO;have hev8 := zjj (a := .slice x.A x.n x.c) (b := .slice x.A' x.n' x.c') (c := .slice x.A'' x.n'' x.c'') hev hO;obtain ⟨u0, u1, u2, j0, j1, j2⟩ := hO;unfold zav.v;go_wp2;unfold put3 at hZ bZ hx8 hev8;obtain ⟨z0, z1, z2, _, _, _⟩ := hZ;exact bodyPost_ret (v := .tuple #[x.v, ve]) (by simp [results, Tryz.results26, go_sem, z0, z1, z2, zav.v]) rfl ⟨x, ve, rfl, hx8, by rw [HX.out]; exact hx2, hcap, by rw [HX.out]; exact hev8, bZ⟩
  ·have HX := Lib.hid (zxz HY.out h3);have d3 : (v == 3) = false := beq_eq_false_iff_ne.2 h3;clear h3;go_wp2_with fail;refine (zwc s _ hs (hg.below b1)).mono ?_;rintro r w5 ⟨x, ve, rfl, hx, hx2, hcap, hev, hb5⟩;have b5 := b1.trans (hb5.mono b1.size);replace hO := hO.below hb5;have hZ := hO.put (.slice x.A x.n x.c) (.slice x.A' x.n' x.c') (.slice x.A'' x.n'' x.c'');have bZ := zay b5 (Nat.le_refl _) (.slice x.A x.n x.c) (.slice x.A' x.n' x.c') (.slice x.A'' x.n'' x.c'');have hx8 := zki (a := .slice x.A x.n x.c) (b := .slice x.A' x.n' x.c') (c := .slice x.A'' x.n'' x.c'') hx hO;have hev8 := zjj (a := .slice x.A x.n x.c) (b := .slice x.A' x.n' x.c') (c := .slice x.A'' x.n'' x.c'') hev hO;obtain ⟨u0, u1, u2, j0, j1, j2⟩ := hO;unfold zav.v;go_wp2;unfold put3 at hZ bZ hx8 hev8;obtain ⟨z0, z1, z2, _, _, _⟩ := hZ;exact bodyPost_ret (v := .tuple #[x.v, ve]) (by simp [results, Tryz.results26, go_sem, z0, z1, z2, zav.v]) rfl ⟨x, ve, rfl, hx8, by rw [HX.out]; exact hx2, hcap, by rw [HX.out]; exact hev8, bZ⟩
 ·have H := Lib.hid (zxe HY.out he);have HE := Lib.hid he;rw [zau he];clear he;have hZ := hO.put nilS nilS nilS;have bZ := zay b1 (Nat.le_refl _) nilS nilS nilS;obtain ⟨u0, u1, u2, j0, j1, j2⟩ := hO;go_wp2;unfold put3 at hZ bZ;obtain ⟨z0, z1, z2, _, _, _⟩ := hZ;exact bodyPost_ret (v := .tuple #[.agg #[nilS, nilS, nilS], .iface 27 (.int .i64 e)]) (by simp [results, Tryz.results26, go_sem, z0, z1, z2]) rfl (zcz H.out (.bare e HE.out) bZ)
set_option maxHeartbeats 2000000 in
set_option maxRecDepth 100000 in
theorem zyf (s : ByteArray) (w : World) (hs : s.size ≤ 1000000) (hg : zbh w) :
  Calls Tryz.prog 28 #[.string s] w fun e w' => ∃ v, e = .returned (.tuple #[.string (zrt s).1, v]) ∧ zbo w' v (zrt s).2.1 (zrt s).2.2 ∧ Below w.heap.size w w' := by
 go_enter Tryz.func28, Tryz.ntmps28;go_wp2_with fail;refine (ybx s w hs hg).mono ?_;rintro r w1 ⟨x, ve, rfl, hx, hx2, hcap, hev, hb1⟩;have bB := zaa w1 (.cells #[.slice x.A x.n x.c, .slice x.A' x.n' x.c', .slice x.A'' x.n'' x.c''] 25);have kB := BxAt.new w1 x;have b2 := hb1.trans (bB.mono hb1.size);have hx3 := hx.grow bB;have hev3 := hev.below bB;obtain ⟨⟨⟨f, h, l⟩, e, p⟩, hX⟩ : ∃ X, oany s = X := ⟨_, rfl⟩;have HXX := Lib.hid hX;have hfit := fun h0 => zts (s := s) h0
 rw [hX] at hx2 hev3 hfit;simp only at hx2 hev3 hfit;unfold zav.v;clear hX hx hev bB hb1;by_cases he : e = 0
 ·subst he;obtain ⟨rfl, rfl⟩ := zbo.zero hev3;obtain ⟨ff, fh⟩ := hfit rfl;injection hx2 with e1 hx2
  injection hx2 with e2 e3
  have HL := Lib.hid (zxi HXX.out);have HF := Lib.hid (show (∀ y ∈ x.f, zbe y) ∧ (∀ y ∈ x.h, zbe y) from ⟨by rw [e1]; exact ff, by rw [e2]; exact fh⟩);have HC := Lib.hid hcap;have HQ := Lib.hid (show zcl (zcb f h l) = zcl (zcb x.f x.h x.l) by rw [e1, e2, e3]);obtain ⟨k0, k1, k2⟩ := kB;clear hfit ff fh e1 e2 e3 hcap hev3;go_wp2_with fail;refine (zfu _ x hx3 HF.out.1 HF.out.2 HC.out.1 HC.out.2 (hg.below b2)).mono ?_;rintro r w3 ⟨v, rfl, hv, hb3⟩;go_wp2;go_ret2;rw [HL.out, HQ.out];exact ⟨_, rfl, hv, b2.trans (hb3.mono b2.size)⟩
 ·obtain ⟨ty, u, rfl⟩ := zev hev3 he;have HL := Lib.hid (zsx HXX.out he);clear hfit he;go_wp2;go_ret2;rw [HL.out];exact ⟨_, rfl, hev3, b2⟩
end Go.Proofs.YtkejlnjnoiidnaaGreatDoor
end

section
namespace Go.Proofs.YtkejlnjnoiidnaaGreatDoor
open Go.RowKit As
structure RB (w : World) (O F : Nat) (v0 v1 v2 : Value) (x y : Int) : Prop where
 c0 : w.cell? ⟨O, 0, none⟩ = some v0
 c1 : w.cell? ⟨O, 1, none⟩ = some v1
 c2 : w.cell? ⟨O, 2, none⟩ = some v2
 x : w.cell? ⟨F, 0, none⟩ = some (.int .i64 x)
 y : w.cell? ⟨F, 1, none⟩ = some (.int .i64 y)
 f0 : w.frozen? ⟨O, 0, none⟩ = false
 f1 : w.frozen? ⟨O, 1, none⟩ = false
 f2 : w.frozen? ⟨O, 2, none⟩ = false
 fx : w.frozen? ⟨F, 0, none⟩ = false
 fy : w.frozen? ⟨F, 1, none⟩ = false
section
variable {w w' : World} {O F B : Nat} {v0 v1 v2 : Value} {x y : Int}
theorem RB.keep (h : RB w O F v0 v1 v2 x y) (hb : Below B w w') (h1 : O < B) (h2 : F < B) : RB w' O F v0 v1 v2 x y :=
  ⟨(hb.cell (p := ⟨O, 0, none⟩) h1).trans h.c0, (hb.cell (p := ⟨O, 1, none⟩) h1).trans h.c1, (hb.cell (p := ⟨O, 2, none⟩) h1).trans h.c2, (hb.cell (p := ⟨F, 0, none⟩) h2).trans h.x, (hb.cell (p := ⟨F, 1, none⟩) h2).trans h.y,
   (hb.frozen (p := ⟨O, 0, none⟩) h1).trans h.f0, (hb.frozen (p := ⟨O, 1, none⟩) h1).trans h.f1, (hb.frozen (p := ⟨O, 2, none⟩) h1).trans h.f2, (hb.frozen (p := ⟨F, 0, none⟩) h2).trans h.fx, (hb.frozen (p := ⟨F, 1, none⟩) h2).trans h.fy⟩
theorem RB.below (h : RB w O F v0 v1 v2 x y) (hb : Below w.heap.size w w') : RB w' O F v0 v1 v2 x y := h.keep hb (cell_lt h.c0) (cell_lt h.x)
theorem RB.drew (h : RB w O F v0 v1 v2 x y) : RB w.drew O F v0 v1 v2 x y := ⟨h.c0, h.c1, h.c2, h.x, h.y, h.f0, h.f1, h.f2, h.fx, h.fy⟩
theorem RB.set0 (h : RB w O F v0 v1 v2 x y) (hn : O ≠ F) (v : Value) : RB (w.setCell ⟨O, 0, none⟩ v) O F v v1 v2 x y :=
 ⟨World.cell?_setCell_same _ _ _ h.c0, zaw h.c1 (by omega), zaw h.c2 (by omega), zam h.x hn, zam h.y hn, by simpa using h.f0, by simpa using h.f1, by simpa using h.f2, by simpa using h.fx, by simpa using h.fy⟩
theorem RB.set1 (h : RB w O F v0 v1 v2 x y) (hn : O ≠ F) (v : Value) : RB (w.setCell ⟨O, 1, none⟩ v) O F v0 v v2 x y :=
 ⟨zaw h.c0 (by omega), World.cell?_setCell_same _ _ _ h.c1, zaw h.c2 (by omega), zam h.x hn, zam h.y hn, by simpa using h.f0, by simpa using h.f1, by simpa using h.f2, by simpa using h.fx, by simpa using h.fy⟩
theorem RB.set2 (h : RB w O F v0 v1 v2 x y) (hn : O ≠ F) (v : Value) : RB (w.setCell ⟨O, 2, none⟩ v) O F v0 v1 v x y :=
 ⟨zaw h.c0 (by omega), zaw h.c1 (by omega), World.cell?_setCell_same _ _ _ h.c2, zam h.x hn, zam h.y hn, by simpa using h.f0, by simpa using h.f1, by simpa using h.f2, by simpa using h.fx, by simpa using h.fy⟩
theorem RB.setF (h : RB w O F v0 v1 v2 x y) (hn : O ≠ F) (x' y' : Int) : RB ((w.setCell ⟨F, 0, none⟩ (.int .i64 x')).setCell ⟨F, 1, none⟩ (.int .i64 y')) O F v0 v1 v2 x' y' :=
 have q : F ≠ O := Ne.symm hn
 ⟨zam (zam h.c0 q) q, zam (zam h.c1 q) q, zam (zam h.c2 q) q, zaw (World.cell?_setCell_same _ _ _ h.x) (by omega), World.cell?_setCell_same _ _ _ (zaw h.y (by omega)), by simpa using h.f0, by simpa using h.f1, by simpa using h.f2, by simpa using h.fx, by simpa using h.fy⟩
theorem RB.other (h : RB w O F v0 v1 v2 x y) {C i : Nat} (h1 : C ≠ O) (h2 : C ≠ F) (v : Value) : RB (w.setCell ⟨C, i, none⟩ v) O F v0 v1 v2 x y :=
 ⟨zam h.c0 h1, zam h.c1 h1, zam h.c2 h1, zam h.x h2, zam h.y h2, by simpa using h.f0, by simpa using h.f1, by simpa using h.f2, by simpa using h.fx, by simpa using h.fy⟩
end
theorem RB.new (w : World) (t1 t2 : TypeId) : RB ((w.alloc (.cells #[nilS, nilS, nilS] t1)).alloc (.cells #[.int .i64 0, .int .i64 0] t2)) w.heap.size (w.heap.size + 1) nilS nilS nilS 0 0 := by
 generalize hW : w.alloc (.cells #[nilS, nilS, nilS] t1) = w1;have b2 := zaa w1 (.cells #[.int .i64 0, .int .i64 0] t2);have l1 : w1.heap.size = w.heap.size + 1 := by rw [← hW]; simp
 have o : ∀ i, i < 3 → w1.cell? ⟨w.heap.size, i, none⟩ = some nilS := by
  intro i hi;rw [← hW, World.cell?_alloc_new];have : i = 0 ∨ i = 1 ∨ i = 2 := by omega
  rcases this with rfl | rfl | rfl <;> rfl
 have g : ∀ i, (w1.alloc (.cells #[.int .i64 0, .int .i64 0] t2)).frozen? ⟨w.heap.size, i, none⟩ = false := by
  intro i;rw [b2.frozen (p := ⟨w.heap.size, i, none⟩) (by simp; omega), ← hW]; simp
 have T := Two.new w1 0 0 t2;rw [l1] at T;exact ⟨(b2.cell (cell_lt (o 0 (by omega)))).trans (o 0 (by omega)), (b2.cell (cell_lt (o 1 (by omega)))).trans (o 1 (by omega)), (b2.cell (cell_lt (o 2 (by omega)))).trans (o 2 (by omega)), T.c0, T.c1, g 0, g 1, g 2, T.f0, T.f1⟩
set_option maxHeartbeats 1000000 in
set_option maxRecDepth 100000 in
theorem yfx (F O : Nat) (y : Int) (w : World) (h0 : w.cell? ⟨F, 0, none⟩ = some (.int .i64 0)) (h1 : w.cell? ⟨F, 1, none⟩ = some (.int .i64 y)) :
  CallsD Tryz.prog 97 #[.pointer (some ⟨F, 0, none⟩), .pointer (some ⟨O, 0, none⟩)] .returning w fun e u' w' => u' = .returning ∧ (e = .returned (.tuple #[]) ∧ Below w.heap.size w w') := by
 go_enter_d Tryz.func97, Tryz.ntmps97;go_wp2_with fail;refine (zcd (0, y) _).mono ?_;rintro r w2 ⟨rfl, hb2⟩;have e1 : (((0, y) : Int × Int).1 == 0) = true := rfl;rw [e1];go_wp2;go_end0;exact ⟨rfl, hb2⟩
set_option maxHeartbeats 1000000 in
set_option maxRecDepth 100000 in
theorem ylk (F O : Nat) (v0 v1 v2 : Value) (x y : Int) (w : World) (h : RB w O F v0 v1 v2 x y) (hx : x ≠ 0) (h2 : O ≠ F) :
  CallsD Tryz.prog 97 #[.pointer (some ⟨F, 0, none⟩), .pointer (some ⟨O, 0, none⟩)] .returning w fun e u' w' => u' = .returning ∧ (e = .returned (.tuple #[]) ∧ RB w' O F nilS nilS nilS x y ∧ ∀ B, B ≤ O → Below B w w') := by
 have HR := h;obtain ⟨r0, r1, r2, r3, r4, _, _, _, _, _⟩ := h;have e1 : (((x, y) : Int × Int).1 == 0) = false := by simpa using hx
 go_enter_d Tryz.func97, Tryz.ntmps97;go_wp2_with fail;refine (zcd (x, y) _).mono ?_;rintro r w2 ⟨rfl, hb2⟩;rw [e1];have H1 := (HR.below hb2).set0 h2 nilS;have H2 := H1.set1 h2 nilS;have H3 := H2.set2 h2 nilS;have lO : O < w.heap.size := cell_lt HR.c0;have p1 := H1.c1;have p2 := H2.c2;obtain ⟨k0, k1, k2, k3, k4, k5, k6, k7, k8, k9⟩ := HR.below hb2;clear r0 r1 r2 r3 r4;go_wp2;go_end0;exact ⟨rfl, H3, fun B q1 => (((hb2.mono (by omega)).setCell (p := ⟨O, 0, none⟩) q1 _).setCell (p := ⟨O, 1, none⟩) q1 _).setCell (p := ⟨O, 2, none⟩) q1 _⟩
def zqx (B : Nat) (x : zav) : Prop := (∀ a, x.A = some a → B ≤ a.block) ∧ (∀ a, x.A' = some a → B ≤ a.block) ∧ (∀ a, x.A'' = some a → B ≤ a.block)
theorem zgg {w : World} {base B0 : Nat} {e : TypeId} {size n m c : Nat} {A : Option Addr} {xs : List Value} (h : w.ownsRow base e size (.slice A n c) m xs) (hB : B0 ≤ base) : ∀ a, A = some a → B0 ≤ a.block := by
 intro a ha;subst ha;rcases h.2 with ⟨hv, _⟩ | ⟨g, cap, cur, hv, hg, _⟩
 ·cases hv
 ·injection hv with h1
  injection h1 with h1
  subst h1;exact Nat.le_trans hB hg
def ynh (s : ByteArray) (w : World) (e : Ending) (w' : World) : Prop :=
 ∃ x : zav, e = .returned (.tuple #[x.v, zba (zcj s).2]) ∧ Bat w' x ∧ (x.f, x.h, x.l) = (zcj s).1 ∧ (x.n ≤ x.c ∧ x.n' ≤ x.c' ∧ zqx w.heap.size x) ∧ Below w.heap.size w w'
theorem noCap (B : Nat) : zis.n ≤ zis.c ∧ zis.n' ≤ zis.c' ∧ zqx B zis := ⟨Nat.le_refl _, Nat.le_refl _, fun _ h => (by cases h), fun _ h => (by cases h), fun _ h => (by cases h)⟩
theorem zch {s : ByteArray} {w W : World} {O F : Nat} {v0 v1 v2 : Value} {e q : Int} {tmps : Array Value} (hv : zcj s = (noB, e, q)) (he : e ≠ 0) (R : RB W O F v0 v1 v2 0 (-1)) (hn : O ≠ F) (lO : w.heap.size ≤ O) (lF : w.heap.size ≤ F) (b : Below w.heap.size w W)
  (t2 : tmps[2]? = some (.pointer (some ⟨O, 0, none⟩))) (t3 : tmps[3]? = some (.pointer (some ⟨F, 0, none⟩))) :
  Leaves Tryz.prog Tryz.f49 tmps (ynh s w) [{ target := .fn (.func 51) #[], args := #[.pointer (some ⟨F, 0, none⟩)] }, { target := .fn (.func 97) #[.pointer (some ⟨F, 0, none⟩), .pointer (some ⟨O, 0, none⟩)], args := #[] }] (.panicking (zgw e q)) W := by
 have HR := R;refine leaves_cons (f := 51) (args := #[.pointer (some ⟨F, 0, none⟩)]) (by simp) (by simp [go_sem]) ?_;refine (zie F 0 (-1) e q [] _ R.x R.y R.fx R.fy).mono ?_;rintro e' u' w' ⟨rfl, rfl, rfl⟩;show Leaves _ _ _ _ _ .returning _;have hZ := (HR.below (zaa W (.cells #[.int .i64 e, .int .i64 q] 138))).setF hn e q;have bZ := ((b.alloc b.size (.cells #[.int .i64 e, .int .i64 q] 138)).setCell (p := ⟨F, 0, none⟩) lF (.int .i64 e)).setCell (p := ⟨F, 1, none⟩) lF (.int .i64 q);refine leaves_cons (f := 97) (args := #[.pointer (some ⟨F, 0, none⟩), .pointer (some ⟨O, 0, none⟩)]) (by simp) (by simp [go_sem]) ?_;refine (ylk F O _ _ _ _ _ _ hZ he hn).mono ?_;rintro e' u' w' ⟨rfl, rfl, hZ', hb⟩;have bF := bZ.trans (hb w.heap.size lO);obtain ⟨z0, z1, z2, z3, z4, _, _, _, _, _⟩ := hZ';show Leaves _ _ _ _ [] .returning _;exact ⟨.tuple #[zis.v, .agg #[.int .i64 e, .int .i64 q]], by simp [results, Tryz.results49, go_sem, t2, t3, z0, z1, z2, z3, z4, zav.v], zis, by rw [hv]; rfl, zhy _, by rw [hv], noCap _, bF⟩
end Go.Proofs.YtkejlnjnoiidnaaGreatDoor
end

section
namespace Go.Proofs.YtkejlnjnoiidnaaGreatDoor
open Go.RowKit As
structure RL (w0 : World) (O E R B : Nat) (s : ByteArray) (p : Nat) (v0 v1 v2 tv av : Value) (f h : List Ent) (ws : List Wr) (T : List ByteArray) (a : List Int) (w : World) : Prop where
 sc : Sc w R s p
 bt : RB w O E v0 v1 v2 0 (-1)
 f : w.ownsRow B 79 2 v0 f.length (entV f)
 h : w.ownsRow B 79 2 v1 h.length (entV h)
 t : w.ownsRow B 9 1 tv T.length (T.map Value.string)
 ws : w.ownsRow B 53 6 v2 ws.length (wrsV ws)
 a : w.ownsRow B 3 1 av a.length (zkw a)
 bel : Below w0.heap.size w0 w
 sz : B ≤ w.heap.size
section
variable {w0 w w' : World} {O E R B p : Nat} {s : ByteArray} {v0 v1 v2 tv av v : Value} {f h : List Ent} {ws : List Wr} {T : List ByteArray} {a : List Int}
theorem RL.below (H : RL w0 O E R B s p v0 v1 v2 tv av f h ws T a w) (hb : Below w.heap.size w w') : RL w0 O E R B s p v0 v1 v2 tv av f h ws T a w' :=
 ⟨H.sc.below hb, H.bt.below hb, own_below H.f hb, own_below H.h hb, own_below H.t hb, own_below H.ws hb, own_below H.a hb, H.bel.trans (hb.mono H.bel.size), Nat.le_trans H.sz hb.size⟩
theorem RL.setR (H : RL w0 O E R B s p v0 v1 v2 tv av f h ws T a w) (S : BS w0 O E R B) (n : Nat) : RL w0 O E R B s n v0 v1 v2 tv av f h ws T a (w.setCell ⟨R, 1, none⟩ (.int .i64 (n : Int))) :=
 ⟨H.sc.step n, H.bt.other S.ro S.re _, zab _ H.f S.r, zab _ H.h S.r, zab _ H.t S.r, zab _ H.ws S.r, zab _ H.a S.r, H.bel.setCell (p := ⟨R, 1, none⟩) S.lr _, by simpa using H.sz⟩
theorem RL.step (H : RL w0 O E R B s p v0 v1 v2 tv av f h ws T a w) (S : BS w0 O E R B) (q n : Nat) : RL w0 O E R B s n v0 v1 v2 tv av f h ws T a ((w.drewN q).setCell ⟨R, 1, none⟩ (.int .i64 (n : Int))) :=
 (H.below (below_drewN (Below.refl _ _) q)).setR S n
theorem RL.yjo (H : RL w0 O E R B s p v0 v1 v2 tv av f h ws T a w) (S : BS w0 O E R B) (hg : w.grownBy w' tv.ownBlock) {T' : List ByteArray} (ht : w'.ownsRow B 9 1 v T'.length (T'.map Value.string)) : RL w0 O E R B s p v0 v1 v2 v av f h ws T' a w' :=
 have bb := zaj (Below.refl B w) hg H.sz H.t
 ⟨H.sc.keep bb S.r, H.bt.keep bb S.o S.e, H.f.kept hg (own_ne H.f H.t (by decide)), H.h.kept hg (own_ne H.h H.t (by decide)), ht, H.ws.kept hg (own_ne H.ws H.t (by decide)), H.a.kept hg (own_ne H.a H.t (by decide)), H.bel.trans (bb.mono S.lb), Nat.le_trans H.sz bb.size⟩
theorem RL.zup (H : RL w0 O E R B s p v0 v1 v2 tv av f h ws T a w) (S : BS w0 O E R B) (hg : w.grownBy w' av.ownBlock) {a' : List Int} (ht : w'.ownsRow B 3 1 v a'.length (zkw a')) : RL w0 O E R B s p v0 v1 v2 tv v f h ws T a' w' :=
 have bb := zaj (Below.refl B w) hg H.sz H.a
 ⟨H.sc.keep bb S.r, H.bt.keep bb S.o S.e, H.f.kept hg (own_ne H.f H.a (by decide)), H.h.kept hg (own_ne H.h H.a (by decide)), H.t.kept hg (own_ne H.t H.a (by decide)), H.ws.kept hg (own_ne H.ws H.a (by decide)), ht, H.bel.trans (bb.mono S.lb), Nat.le_trans H.sz bb.size⟩
theorem RL.yab (H : RL w0 O E R B s p v0 v1 v2 tv av f h ws T a w) (S : BS w0 O E R B) (hg : w.grownBy w' v2.ownBlock) {ws' : List Wr} (ht : w'.ownsRow B 53 6 v ws'.length (wrsV ws')) : RL w0 O E R B s p v0 v1 v tv av f h ws' T a (w'.setCell ⟨O, 2, none⟩ v) :=
 have bb := zaj (Below.refl B w) hg H.sz H.ws
 ⟨by have k := H.sc.keep bb S.r; exact ⟨zam k.c0 (Ne.symm S.ro), zam k.c1 (Ne.symm S.ro), by simpa using k.f1⟩, (H.bt.keep bb S.o S.e).set2 S.oe _, zab _ (H.f.kept hg (own_ne H.f H.ws (by decide))) S.o, zab _ (H.h.kept hg (own_ne H.h H.ws (by decide))) S.o, zab _ (H.t.kept hg (own_ne H.t H.ws (by decide))) S.o, zab _ ht S.o, zab _ (H.a.kept hg (own_ne H.a H.ws (by decide))) S.o, (H.bel.trans (bb.mono S.lb)).setCell (p := ⟨O, 2, none⟩) S.lo _, by simpa using Nat.le_trans H.sz bb.size⟩
theorem RL.vecs {f' h' : List Ent} {u0 u1 : Value} (H : RL w0 O E R B s p u0 u1 v2 tv av f' h' ws T a w) (S : BS w0 O E R B) (hf : w.ownsRow B 79 2 v0 f.length (entV f)) (hh : w.ownsRow B 79 2 v1 h.length (entV h)) : RL w0 O E R B s p v0 v1 v2 tv av f h ws T a ((w.setCell ⟨O, 0, none⟩ v0).setCell ⟨O, 1, none⟩ v1) :=
 ⟨⟨zam (zam H.sc.c0 (Ne.symm S.ro)) (Ne.symm S.ro), zam (zam H.sc.c1 (Ne.symm S.ro)) (Ne.symm S.ro), by simpa using H.sc.f1⟩, (H.bt.set0 S.oe _).set1 S.oe _, zab _ (zab _ hf S.o) S.o, zab _ (zab _ hh S.o) S.o, zab _ (zab _ H.t S.o) S.o, zab _ (zab _ H.ws S.o) S.o, zab _ (zab _ H.a S.o) S.o, (H.bel.setCell (p := ⟨O, 0, none⟩) S.lo _).setCell (p := ⟨O, 1, none⟩) S.lo _, by simpa using H.sz⟩
end
structure RLG (w0 : World) (O E R B g : Nat) (x : Wr) (s : ByteArray) (p : Nat) (v0 v1 v2 tv av : Value) (f h : List Ent) (ws : List Wr) (T : List ByteArray) (a : List Int) (w : World) : Prop where
 b : RL w0 O E R B s p v0 v1 v2 tv av f h ws T a w
 k : w.ownsRow B 53 6 (.slice (some ⟨g, 0, none⟩) 1 1) 1 (zbb x)
 off : v2.ownBlock = none ∨ v2.ownBlock ≠ some g
section
variable {w0 w w' : World} {O E R B g p : Nat} {x : Wr} {s : ByteArray} {v0 v1 v2 tv av v : Value} {f h : List Ent} {ws : List Wr} {T : List ByteArray} {a : List Int}
theorem RLG.ge (H : RLG w0 O E R B g x s p v0 v1 v2 tv av f h ws T a w) : B ≤ g := (H.k.lt g rfl).1
theorem RLG.lt (H : RLG w0 O E R B g x s p v0 v1 v2 tv av f h ws T a w) : g < w.heap.size := (H.k.lt g rfl).2
theorem RL.newG (H : RL w0 O E R B s p v0 v1 v2 tv av f h ws T a w) (x : Wr) : RLG w0 O E R B w.heap.size x s p v0 v1 v2 tv av f h ws T a (w.alloc (wrO x.1 x.2.1 x.2.2.1 x.2.2.2.1 x.2.2.2.2.1 x.2.2.2.2.2)) :=
 ⟨H.below (zaa w _), World.ownsRow_lit w _ 1 H.sz (by unfold maxLen; omega) rfl, by
  rcases hv : v2.ownBlock with _ | k
  ·exact .inl rfl
  ·have := (H.ws.lt k hv).2
   exact .inr (by simp; omega)⟩
theorem RLG.below (H : RLG w0 O E R B g x s p v0 v1 v2 tv av f h ws T a w) (hb : Below w.heap.size w w') : RLG w0 O E R B g x s p v0 v1 v2 tv av f h ws T a w' := ⟨H.b.below hb, own_below H.k hb, H.off⟩
theorem RLG.setR (H : RLG w0 O E R B g x s p v0 v1 v2 tv av f h ws T a w) (S : BS w0 O E R B) (n : Nat) : RLG w0 O E R B g x s n v0 v1 v2 tv av f h ws T a (w.setCell ⟨R, 1, none⟩ (.int .i64 (n : Int))) := ⟨H.b.setR S n, zab _ H.k S.r, H.off⟩
theorem RLG.step (H : RLG w0 O E R B g x s p v0 v1 v2 tv av f h ws T a w) (S : BS w0 O E R B) (q n : Nat) : RLG w0 O E R B g x s n v0 v1 v2 tv av f h ws T a ((w.drewN q).setCell ⟨R, 1, none⟩ (.int .i64 (n : Int))) :=
 (H.below (below_drewN (Below.refl _ _) q)).setR S n
theorem RLG.zup (H : RLG w0 O E R B g x s p v0 v1 v2 tv av f h ws T a w) (S : BS w0 O E R B) (hg : w.grownBy w' av.ownBlock) {a' : List Int} (ht : w'.ownsRow B 3 1 v a'.length (zkw a')) : RLG w0 O E R B g x s p v0 v1 v2 tv v f h ws T a' w' :=
 ⟨H.b.zup S hg ht, H.k.kept hg (own_ne H.k H.b.a (by decide)), H.off⟩
theorem RLG.setG (H : RLG w0 O E R B g x s p v0 v1 v2 tv av f h ws T a w) (S : BS w0 O E R B) {y : Wr} (j : Nat) (u : Value) (hy : zbb y = (zbb x).set j u) : RLG w0 O E R B g y s p v0 v1 v2 tv av f h ws T a (w.setCell ⟨g, j, none⟩ u) := by
 obtain ⟨h1, h2⟩ := H.k.stored j u;rw [← hy] at h1;have hge := H.ge;have bb : Below B w (w.setCell ⟨g, j, none⟩ u) := (Below.refl B w).setCell (p := ⟨g, j, none⟩) hge _;exact ⟨⟨H.b.sc.keep bb S.r, H.b.bt.keep bb S.o S.e, H.b.f.kept h2 (own_ne H.b.f H.k (by decide)), H.b.h.kept h2 (own_ne H.b.h H.k (by decide)), H.b.t.kept h2 (own_ne H.b.t H.k (by decide)), H.b.ws.kept h2 H.off, H.b.a.kept h2 (own_ne H.b.a H.k (by decide)), H.b.bel.trans (bb.mono S.lb), by simpa using H.b.sz⟩, h1, H.off⟩
theorem RLG.cell (H : RLG w0 O E R B g x s p v0 v1 v2 tv av f h ws T a w) (j : Nat) (hj : j < 6) : w.cell? ⟨g, j, none⟩ = (zbb x)[j]? := H.k.cellAt j (by omega)
theorem RLG.froz (H : RLG w0 O E R B g x s p v0 v1 v2 tv av f h ws T a w) (j : Nat) : w.frozen? ⟨g, j, none⟩ = false := H.k.frozenAt j
theorem RLG.at_ (H : RLG w0 O E R B g x s p v0 v1 v2 tv av f h ws T a w) : WrAt w g x.1 x.2.1 x.2.2.1 x.2.2.2.1 x.2.2.2.2.1 x.2.2.2.2.2 :=
 ⟨H.cell 0 (by omega), H.cell 1 (by omega), H.cell 2 (by omega), H.cell 3 (by omega), H.cell 4 (by omega), H.cell 5 (by omega)⟩
theorem RLG.free (H : RLG w0 O E R B g x s p v0 v1 v2 tv av f h ws T a w) : zdf w g := ⟨H.froz 0, H.froz 1, H.froz 2, H.froz 3, H.froz 4, H.froz 5⟩
end
end Go.Proofs.YtkejlnjnoiidnaaGreatDoor
end
