/- old.Read says what oread says. Printed by gen_oread.py.

The law's own function big: how much a batch has.

Whether two batches are one: Same of package batch and of the reference.

How the arguments of a law are opened: slices of structs, strings and numbers, and structs by value, as lists and tuples of mine. Any program.

The law OldReads returns true and changes nothing. -/
import Derived.Test.YtkejlnjnoiidnaaGreatDoorZ17
import Derived.Test.YtkejlnjnoiidnaaGreatDoorZ5
import Derived.Test.YtkejlnjnoiidnaaGreatDoorZ12
import Derived.Test.YtkejlnjnoiidnaaGreatDoorZ1
import Derived.Test.YtkejlnjnoiidnaaGreatDoorZ4
import Derived.Deep.Cut
import Derived.ProofKit
import Derived.OpenShut
import Derived.Deep.Slices
import Derived.Deep.Fields
import Derived.Test.YtkejlnjnoiidnaaGreatDoorZ19
section
namespace Go.Proofs.YtkejlnjnoiidnaaGreatDoor
set_option linter.unusedSimpArgs false
set_option linter.unusedVariables false
open Go.RowKit As
theorem sw_facts {v : Int} (h : v = 1 ∨ v = 2 ∨ v = 3) : (v = 1 ∧ (v == 2) = false ∧ (v == 3) = false) ∨ (v = 2 ∧ (v == 2) = true) ∨ (v = 3 ∧ (v == 2) = false ∧ (v == 3) = true) := by
 rcases h with rfl | rfl | rfl
 ·exact .inl ⟨rfl, rfl, rfl⟩
 ·exact .inr (.inl ⟨rfl, rfl⟩)
 ·exact .inr (.inr ⟨rfl, rfl, rfl⟩)
theorem Tk.new (w : World) (T : ByteArray) : Tk (w.alloc (.cells #[.string T, .nilIface] 88)) w.heap.size T 0 :=
 ⟨by rw [World.cell?_alloc_at _ _ _ _ rfl]; rfl, by rw [World.cell?_alloc_at _ _ _ _ rfl]; rfl, by simp, by simp⟩
theorem or_os {w0 w2 w4 : World} {O : Nat} {a b : Obj} (h1 : w0.heap.size ≤ w2.heap.size) (h2 : O < w2.heap.size) (h3 : w0.heap.size ≤ O) (h4 : (w2.alloc a).heap.size ≤ w4.heap.size) (h5 : (0 : Nat) < w0.heap.size) : OS w0 w2.heap.size w4.heap.size O (w2.alloc a).heap.size (w4.alloc b).heap.size := by
 simp only [World.size_alloc] at h4 ⊢
 refine ⟨by omega, by omega, by omega, by omega, by omega, by omega, by omega, by omega, by omega, by omega, by omega, ?_, ?_, by omega, by omega, h5⟩
 ·exact Nat.ne_of_lt (Nat.lt_of_lt_of_le h5 h1)
 ·exact Nat.ne_of_lt (Nat.lt_of_lt_of_le h5 (by omega))
structure OrL (a b c : Nat) : Prop where
 a : a ≤ maxLen
 b : b ≤ maxLen
 c : c ≤ maxLen
theorem err_set {w : World} {v x : Value} {e p : Int} {B : Nat} (h : ErrIs w v e p) (hc : w.cell? ⟨B, 1, none⟩ = some .nilIface) : ErrIs (w.setCell ⟨B, 1, none⟩ x) v e p := by
 cases h with
 | none => exact .none
 | bare _ he => exact .bare _ he
 | at_ b o _ _ he h0 h1 => exact .at_ b o _ _ he (cell_keep h0 hc (by simp)) (cell_keep h1 hc (by simp))
theorem or_sixty {k m : Nat} (h : m = k) (h3 : (k : Int) ≤ 60) : m ≤ 60 := by omega
theorem or_empty {T : ByteArray} {p : Nat} (h : ¬ p < T.size) : (rest T p).toList.isEmpty = true := by rw [str_empty', rest_size]; simp only [decide_eq_true_eq]; omega
theorem or_cap {k m n : Nat} (h : m = k) (h2 : k < n) (h3 : (n : Int) ≤ 60) : m + 1 ≤ 2 ^ 63 - 1 ∧ (m + 1) * 64 ≤ 140737488355328 := by omega
theorem owrites_next {T : ByteArray} {f h : List Ent} {n k p : Nat} {ws : List Wr} (hk : k < n) : owrites T f h (n - k) p ws = owrite T p fun y q => owrites T f h (n - (k + 1)) q (ws ++ [y]) := by
 rw [show n - k = (n - (k + 1)) + 1 by omega]
 rfl
def orV (B Q : Nat) (A2 : Option Addr) (n2 c2 : Nat) (g : Wr × Nat × Value) : Nat → Value
 | 0 => .pointer (some ⟨Q, 2, none⟩)
 | 1 => .slice A2 n2 c2
 | 2 => .pointer (some ⟨B, 0, none⟩)
 | 3 => wrV g.1.1 g.1.2.1 g.1.2.2.1 g.1.2.2.2.1 g.1.2.2.2.2.1 g.1.2.2.2.2.2
 | 4 => .slice (some ⟨g.2.1, 0, none⟩) 1 1
 | 5 => g.2.2
 | 6 => .pointer (some ⟨Q, 2, none⟩)
 | _ => undef
theorem rest_zero {T : ByteArray} : rest T 0 = T := ByteArray.extract_zero_size
set_option maxHeartbeats 8000000 in
set_option maxRecDepth 100000 in
theorem oldread_any (s : ByteArray) (w : World) (hs : s.size ≤ 1000000) (hg : Handle w) :
  Calls Tryz.prog 17 #[.string s] w fun e w' => REnd (oread s) w e w' := by
 obtain ⟨k0, hk0, hx0, hx1, hx2⟩ := info_parts bdWr
 have hO := O3.new w nilS nilS nilS 25
 have b0 := below1 w (.cells #[nilS, nilS, nilS] 25)
 go_enter Tryz.func17, Tryz.ntmps17
 go_wp2_with fail
 refine (fversion_any s _ hs).mono ?_
 rintro r w1 ⟨rfl, hb1⟩
 replace hO := hO.below hb1
 have b1 := b0.trans (hb1.mono b0.size)
 have lt := cell_lt hO.c0
 generalize hOO : w.heap.size = O at hO lt
 have LO := Lib.hid (Nat.le_of_eq hOO)
 have LT := Lib.hid lt
 obtain ⟨⟨v, e⟩, hy⟩ : ∃ y, fver s = y := ⟨_, rfl⟩
 have HY := Lib.hid hy
 rw [hy]
 clear hy b0 hb1 hOO lt
 simp only
 by_cases he : e = 0
 ·subst he
  have HG := Lib.hid (fver_good HY.out)
  obtain ⟨T, hT⟩ : ∃ T, T = s.extract 3 (s.size - 4) := ⟨_, rfl⟩
  have HT := Lib.hid hT
  have hTs : T.size ≤ 1000000 := by rw [hT]; exact fr_cut hs
  have hin : finside s = (T, 0) := by rw [hT]; unfold finside; rw [HY.out, if_neg (by simp)]
  have HIN := Lib.hid hin
  rw [errV_zero]
  clear hT hin
  go_wp2_with fail
  refine (finside_any s _ hs).mono ?_
  rintro r w2 ⟨rfl, hb2⟩
  rw [HIN.out]
  simp only
  rw [errV_zero]
  have b2 := b1.trans (hb2.mono b1.size)
  replace hO := hO.below hb2
  have LT2 := Lib.hid (Nat.lt_of_lt_of_le LT.out hb2.size)
  clear hb2 b1
  rcases sw_facts HG.out.2.2.1 with ⟨rfl, d2, d3⟩ | ⟨rfl, d2⟩ | ⟨rfl, d2, d3⟩
  ·have HX := Lib.hid (oread_one HY.out)
   obtain ⟨X, hX⟩ : ∃ X, X = oread s := ⟨_, rfl⟩
   have HXX := Lib.hid hX
   have hXo : X = oall T := by rw [hX, HX.out, ← HT.out]
   have tk0 := Tk.new w2 T
   have bB := below1 w2 (.cells #[.string T, .nilIface] 88)
   have hT0 : TkAt T _ w2.heap.size X (fun p => ovec T p fun f p => ovec T p fun h p => onum T p 60 fun n p => owrites T f h n p []) := .inl ⟨0, Nat.zero_le _, by rw [rest_zero]; exact tk0, hXo⟩
   have b3 := b2.trans (bB.mono b2.size)
   replace hO := hO.below bB
   clear hX hXo tk0
   go_wp2_with fail
   refine (tvec T w2.heap.size _ X _ hTs hT0).mono ?_
   rintro q w4 ⟨v0, f, rfl, hF, hf16, hff, hg4, hT4⟩
   obtain ⟨A0, c0, rfl⟩ := own_form hF
   have tB := O3.new w4 (.slice A0 f.length c0) nilS nilS 25
   have bQ := below1 w4 (.cells #[.slice A0 f.length c0, nilS, nilS] 25)
   have OSS := Lib.hid (or_os (w0 := w) (w2 := w2) (w4 := w4) (O := O) (a := (.cells #[.string T, .nilIface] 88)) (b := (.cells #[.slice A0 f.length c0, nilS, nilS] 25)) b2.size LT2.out LO.out hg4.size (cell_lt hg))
   have hg5 := grown_trans hg4 (grown_of bQ _)
   have hT5 := hT4.below bQ
   have hF5 := own_below hF bQ
   have hoff := fun k e => Nat.ne_of_lt (hF.lt k e).2
   have b5 := b3.trans ((Below.refl w.heap.size _).grown hg5 b3.size (fun k e => by injection e with e; have := b2.size; omega))
   replace hO := hO.grown hg5 (fun e => OSS.out.OB (Option.some.inj e).symm)
   clear hT4 hg4 hF bQ hT0 b3 bB hg5
   go_wp2_with fail
   refine (tvec T w2.heap.size _ X _ hTs hT5).mono ?_
   rintro q w6 ⟨v1, h, rfl, hH, hh16, hhf, hg6, hT6⟩
   obtain ⟨A1, c1, rfl⟩ := own_form hH
   have hT7 := hT6.nb (C := w4.heap.size) (i := 1) OSS.out.QB (.slice A1 h.length c1)
   have tB6 := tB.grown hg6 (fun e => OSS.out.QB (Option.some.inj e).symm)
   have b7 := (b5.trans ((Below.refl w.heap.size _).grown hg6 b5.size (fun k e => by injection e with e; have := b2.size; omega))).setCell (p := ⟨w4.heap.size, 1, none⟩) OSS.out.lQ (.slice A1 h.length c1)
   have ol : OL w w2.heap.size w4.heap.size O _ _ (.slice A0 f.length c0) (.slice A1 h.length c1) nilS f h [] (w6.setCell ⟨w4.heap.size, 1, none⟩ (.slice A1 h.length c1)) :=
    ⟨tB6.s1 _, (hO.grown hg6 (fun e => OSS.out.OB (Option.some.inj e).symm)).nb OSS.out.QO _, own_newer (w' := w6) (own_kept hF5 hg6 OSS.out.B1) hoff, own_newer (w' := w6) hH (fun k e => Nat.ne_of_gt (Nat.lt_of_lt_of_le OSS.out.Q2 (hH.lt k e).1)), World.ownsRow_nil _ _ _ _, hoff, hg.below b7, b7, by simpa using hg6.size⟩
   obtain ⟨x0, x1, x2, xf0, xf1, xf2⟩ := tB6
   clear hT5 hT6 hg6 hH hF5 tB b5 b7 hO
   go_wp2_with fail
   refine (tnum T w2.heap.size 60 _ X _ hTs (by decide) (by decide) hT7).mono ?_
   rintro q w8 ⟨n, rfl, hn, hg8, hT8⟩
   replace ol := ol.grown OSS.out hg8
   have HN := Lib.hid hn
   generalize (w2.alloc (.cells #[.string T, .nilIface] 88)).heap.size = N1 at *
   generalize (w4.alloc (.cells #[.slice A0 f.length c0, nilS, nilS] 25)).heap.size = N2 at *
   clear hT7 hg8 x0 x1 x2 xf0 xf1 xf2 hn
   go_wp2
   go_loopw [46] (fun kv wr => ∃ (k : Nat) (v2 : Value) (ws : List Wr), k ≤ n ∧ ws.length = k ∧ kv = .int .i64 k ∧ OL w w2.heap.size w4.heap.size O N1 N2 (.slice A0 f.length c0) (.slice A1 h.length c1) v2 f h ws wr ∧ TkAt T wr w2.heap.size X (fun p => owrites T f h (n - k) p ws)) (fun kv _ => n - (intOf kv).toNat)
   case atStart => exact ⟨0, nilS, [], Nat.zero_le _, rfl, rfl, ol, hT8⟩
   case round =>
    clear ol hT8
    obtain ⟨k, v2, ws, hk, hws, rfl, ol, hT⟩ := hrel
    by_cases hlt : k < n
    ·obtain ⟨jd1, jd2⟩ := lt_dec hlt
     obtain ⟨jw1, jw2⟩ := j_facts' (j := k) (by have := HN.out; omega)
     have HLT := Lib.hid hlt
     have HWS := Lib.hid hws
     have HCP := Lib.hid (or_cap hws hlt HN.out)
     have hTW : TkAt T wr w2.heap.size X (fun p => owrite T p fun y q => owrites T f h (n - (k + 1)) q (ws ++ [y])) := hT.is (fun p => owrites_next hlt)
     obtain ⟨A2, c2, rfl⟩ := own_form ol.ws
     clear hT hlt hk hws
     go_wp2_with fail
     refine Flow.wp_region_go (by kernel_rfl) (by kernel_rfl) (by kernel_rfl) 95 rfl (by kernel_rfl) (orV w2.heap.size w4.heap.size A2 ws.length c2) (fun g L wz => OX w w2.heap.size w4.heap.size O N1 N2 (.slice A0 f.length c0) (.slice A1 h.length c1) (.slice A2 ws.length c2) f h ws T X (fun y q => owrites T f h (n - (k + 1)) q (ws ++ [y])) g (L 3) (L 4) (L 5) (L 7) wz) (fun _ _ => False) ((noWr, 0, undef)) ((OX.new (ol.below OSS.out (Below.refl _ _).drew) (hTW.below (Below.refl _ _).drew) _)) ⟨?_, ?_, ?_, ?_, ?_, ?_, ?_, ?_, trivial⟩ ?_ ?_
     ·intro g L wz K ρ hc0 hf0 hF hO hU hcl hi hd hC hK
      have e9 : ρ (.tmp 9) = .pointer (some ⟨w4.heap.size, 0, none⟩) := hO 9 (by kernel_rfl)
      simp [go_sem, Flow.ylP_value, Flow.ylP_skip, Flow.ylP_enter, Flow.ylP_panic, hc0, hf0, e9]
      exact hK g wz hC (fun _ _ => rfl)
     ·intro g L wz K ρ hc0 hf0 hF hO hU hcl hi hd hC hK
      have d0 : L 0 = true := hd ⟨0, .data⟩ (by simp) rfl
      have e48 : ρ (.tmp 48) = .pointer (some ⟨w4.heap.size, 2, none⟩) := hF 48 0 (by kernel_rfl) d0
      have h5 : L 5 = false := by cases h : L 5 with | false => rfl | true => (have := hcl 5 1 (by kernel_rfl) h; rw [hi] at this; cases this)
      have cc := (hC.pre h5).bx.c2
      simp [go_sem, Flow.ylP_value, Flow.ylP_skip, Flow.ylP_enter, Flow.ylP_panic, hc0, hf0, e48, cc]
      exact hK g wz hC (fun _ _ => rfl)
     ·intro g L wz K ρ hc0 hf0 hF hO hU hcl hi hd hC hK
      have e8 : ρ (.tmp 8) = .pointer (some ⟨w2.heap.size, 0, none⟩) := hO 8 (by kernel_rfl)
      simp [go_sem, Flow.ylP_value, Flow.ylP_skip, Flow.ylP_enter, Flow.ylP_panic, hc0, hf0, e8]
      exact hK g wz hC (fun _ _ => rfl)
     ·intro g L wz K ρ hc0 hf0 hF hO hU hcl hi hd hC hK
      have d2 : L 2 = true := hd ⟨2, .data⟩ (by simp) rfl
      have e50 : ρ (.tmp 50) = .pointer (some ⟨w2.heap.size, 0, none⟩) := hF 50 2 (by kernel_rfl) d2
      simp [go_sem, Flow.ylP_value, Flow.ylP_skip, Flow.ylP_enter, Flow.ylP_panic, hc0, hf0, e50]
      obtain ⟨h4, h5, h7⟩ := (hi ▸ hC).flags
      have hC' : OX w w2.heap.size w4.heap.size O N1 N2 (.slice A0 f.length c0) (.slice A1 h.length c1) (.slice A2 ws.length c2) f h ws T X (fun y q => owrites T f h (n - (k + 1)) q (ws ++ [y])) g false false false false wz := by rw [hi, h4, h5, h7] at hC; exact hC
      refine (tkwrite T w2.heap.size wz X _ hTs (hC'.pre rfl).hd (hC'.tk0 rfl)).mono ?_
      rintro q wn ⟨y, rfl, hgn, htn⟩
      exact ⟨_, rfl, hK (y, g.2) wn (by show OX _ _ _ _ _ _ _ _ _ _ _ _ _ _ _ _ true (L 4) (L 5) (L 7) _; rw [h4, h5, h7]; exact hC'.read OSS.out hgn htn) (by intro j hj; unfold orV; split <;> first | rfl | (rw [hi] at hj; cases hj) | (have hz := hcl _ 3 (by kernel_rfl) hj; rw [hi] at hz; cases hz))⟩
     ·intro g L wz K ρ hc0 hf0 hF hO hU hcl hi hd hC hK
      have d3 : L 3 = true := hd ⟨3, .data⟩ (by simp) rfl
      have e51 : ρ (.tmp 51) = wrV g.1.1 g.1.2.1 g.1.2.2.1 g.1.2.2.2.1 g.1.2.2.2.2.1 g.1.2.2.2.2.2 := hF 51 3 (by kernel_rfl) d3
      obtain ⟨h5, h7⟩ := (hi ▸ hC).flags4
      simp [go_sem, Flow.ylP_value, Flow.ylP_skip, Flow.ylP_enter, Flow.ylP_panic, hc0, hf0, e51]
      rw [d3, hi, h5, h7] at hC
      refine hK (g.1, wz.heap.size, g.2.2) _ ?_ (by intro j hj; unfold orV; split <;> first | rfl | (rw [hi] at hj; cases hj) | (have hz := hcl _ 4 (by kernel_rfl) hj; rw [hi] at hz; cases hz))
      show OX _ _ _ _ _ _ _ _ _ _ _ _ _ _ _ _ (L 3) true (L 5) (L 7) _
      rw [d3, h5, h7]
      exact hC.build OSS.out
     ·intro g L wz K ρ hc0 hf0 hF hO hU hcl hi hd hC hK
      have d1 : L 1 = true := hd ⟨1, .data⟩ (by simp) rfl
      have e49 : ρ (.tmp 49) = .slice A2 ws.length c2 := hF 49 1 (by kernel_rfl) d1
      have d4 : L 4 = true := hd ⟨4, .data⟩ (by simp) rfl
      have e52 : ρ (.tmp 52) = .slice (some ⟨g.2.1, 0, none⟩) 1 1 := hF 52 4 (by kernel_rfl) d4
      have h7 := (hi ▸ hC).flags5
      have hpre := hC.pre hi
      have htmp := hC.tmp d4 hi
      obtain ⟨v', wn, hrun, ho, hgw, _⟩ := run_append_own (P := Tryz.prog) wz N2 23 23 53 k0 (.agg #[.int .i64 0, .int .i64 0, .int .i64 0, .string ⟨#[]⟩, .string ⟨#[]⟩, .int .i64 0]) 6 64 Tryz.underlying23 hk0 hx0 hx1 hx2 rfl (by decide) (.slice A2 ws.length c2) ws.length (wrsV ws) hpre.ws ⟨g.2.1, 0, none⟩ 1 1 (wrCells g.1) rfl (wr_cells htmp) wr_one HCP.out.1 HCP.out.2 hpre.sz
      have ho' := wrsV_snoc rfl ho
      unfold execOp
      simp only [resolve, invoke, builtin, Sem.run_bind, Sem.run_pure, Result.andThen_ok, List.map_toArray, List.map_cons, List.map_nil, e49, e52, hrun]
      have d3 : L 3 = true := hC.o4 d4
      rw [d3, d4, hi, h7] at hC
      refine hK (g.1, g.2.1, v') wn ?_ (by intro j hj; unfold orV; split <;> first | rfl | (rw [hi] at hj; cases hj) | (have hz := hcl _ 5 (by kernel_rfl) hj; rw [hi] at hz; cases hz))
      show OX _ _ _ _ _ _ _ _ _ _ _ _ _ _ _ _ (L 3) (L 4) true (L 7) _
      rw [d3, d4, h7]
      exact hC.append OSS.out hgw ho'
     ·intro g L wz K ρ hc0 hf0 hF hO hU hcl hi hd hC hK
      have e9 : ρ (.tmp 9) = .pointer (some ⟨w4.heap.size, 0, none⟩) := hO 9 (by kernel_rfl)
      simp [go_sem, Flow.ylP_value, Flow.ylP_skip, Flow.ylP_enter, Flow.ylP_panic, hc0, hf0, e9]
      exact hK g wz hC (fun _ _ => rfl)
     ·intro g L wz K ρ hc0 hf0 hF hO hU hcl hi hd hC hK
      have d6 : L 6 = true := hd ⟨6, .data⟩ (by simp) rfl
      have e54 : ρ (.tmp 54) = .pointer (some ⟨w4.heap.size, 2, none⟩) := hF 54 6 (by kernel_rfl) d6
      have d5 : L 5 = true := hd ⟨5, .data⟩ (by simp) rfl
      have e53 : ρ (.tmp 53) = g.2.2 := hF 53 5 (by kernel_rfl) d5
      have d4 := hC.o5 d5
      have d3 := hC.o4 d4
      rw [d3, d4, d5, hi] at hC
      obtain ⟨mb, ⟨A9, n9, c9, hv9⟩, _⟩ := hC.mid rfl rfl
      have a0 := mb.c2
      have a1 := mb.f2
      rw [hv9] at e53
      have hz := hK g _ (show OX _ _ _ _ _ _ _ _ _ _ _ _ _ _ _ _ (L 3) (L 4) (L 5) true _ by rw [d3, d4, d5]; exact hC.store OSS.out) (fun _ _ => rfl)
      rw [hv9] at hz
      simp [go_sem, Flow.ylP_value, Flow.ylP_skip, Flow.ylP_enter, Flow.ylP_panic, hc0, hf0, e54, e53, a0, a1]
      exact hz
     ·intro g L ch wz h; exact h.elim
     ·intro g L wz hL hC
      rw [hL 3 (by decide), hL 4 (by decide), hL 5 (by decide), hL 7 (by decide)] at hC
      have ol9 := hC.fin rfl
      have hT9 := hC.tk1 rfl
      simp only [Flow.putAll, orV]
      go_wp2
      go_roundw
      case rel => exact ⟨k + 1, g.2.2, ws ++ [g.1], HLT.out, by rw [List.length_append, HWS.out]; rfl, by go_num, ol9, hT9⟩
      case measure => exact meas_next HLT.out
    ·obtain rfl : k = n := Nat.le_antisymm hk (Nat.not_lt.1 hlt)
     obtain ⟨jd1, jd2⟩ := lt_no (Nat.lt_irrefl k)
     have hE : TkAt T wr w2.heap.size X (fun p => oend T f h ws p) := hT.is (fun p => by rw [Nat.sub_self]; rfl)
     obtain ⟨A2, c2, rfl⟩ := own_form ol.ws
     clear hT hk hlt
     rcases hE with ⟨p, hp, hT, hX⟩ | ⟨r, e, hr, he, hT, hX⟩
     ·have HX9 := Lib.hid hX
      clear hX
      by_cases hend : p < T.size
      ·have hTl : ErrIs (wr.setCell ⟨w2.heap.size, 1, none⟩ (errV 3)) (.iface 27 (.int .i64 3)) 3 (-1) := .bare 3 (by decide)
       have ol3 := ol.grown OSS.out (grown_set wr w2.heap.size 1 (errV 3))
       have d0 : (rest T p).toList.isEmpty = false := by rw [str_empty', rest_size]; simp only [decide_eq_false_iff_not]; omega
       have HQ := Lib.hid (oend_more (s := T) (f := f) (h := h) (ws := ws) hend)
       have hT3 := hT.err 3
       obtain ⟨t0, t1, tf0, tf1⟩ := hT
       obtain ⟨y0, y1, _, _⟩ := hT3
       rw [errV_zero] at t1
       rw [show errV 3 = .iface 27 (.int .i64 3) from rfl] at hTl ol3 y0 y1
       clear hend hp
       go_wp2_with fail
       refine (tell_any hTl ol3.hd).mono ?_
       rintro q w9 ⟨rfl, hb9⟩
       have b9 := ol3.bel.trans (hb9.mono ol3.bel.size)
       have hO := ol3.o.below hb9
       have hZ := hO.put nilS nilS nilS
       have bZ := below_put3 b9 LO.out nilS nilS nilS
       obtain ⟨u0, u1, u2, j0, j1, j2⟩ := hO
       go_wp2
       unfold put3 at hZ bZ
       obtain ⟨z0, z1, z2, _, _, _⟩ := hZ
       exact bodyPost_ret (v := .tuple #[.agg #[nilS, nilS, nilS], .iface 27 (.int .i64 3)]) (by simp [results, Tryz.results17, go_sem, z0, z1, z2]) rfl (rend_no (HXX.out.symm.trans (HX9.out.trans HQ.out)) (.bare 3 (by decide)) bZ)
      ·have d0 := or_empty hend
       have HEND := Lib.hid hend
       have hT0 := hT
       obtain ⟨t0, t1, tf0, tf1⟩ := hT
       rw [errV_zero] at t1
       obtain ⟨b0, b1, b2', bf0, bf1, bf2⟩ := ol.bx
       have hll := or_sixty hws HN.out
       have hbat : Bat wr ⟨A0, f.length, c0, A1, h.length, c1, A2, ws.length, c2, f, h, ws⟩ := ⟨Sl.of_own ol.f, Sl.of_own ol.h, Sl.of_own ol.ws, Nat.le_trans hf16 (by unfold maxLen; decide), Nat.le_trans hh16 (by unfold maxLen; decide), Nat.le_trans hll (by unfold maxLen; decide)⟩
       have HDD := Lib.hid ol.hd
       have HFF := Lib.hid (And.intro hff hhf)
       have OLL := Lib.hid ol
       have HTT := Lib.hid hT0
       have HLE := Lib.hid (show f.length ≤ maxLen ∧ h.length ≤ maxLen ∧ ws.length ≤ maxLen from ⟨Nat.le_trans hf16 (by unfold maxLen; decide), Nat.le_trans hh16 (by unfold maxLen; decide), Nat.le_trans hll (by unfold maxLen; decide)⟩)
       have HBT := Lib.hid hbat
       clear hend hp hll hws hT0 hff hhf hf16 hh16 hbat ol hoff
       go_wp2_with fail
       refine (bright_any wr ⟨A0, f.length, c0, A1, h.length, c1, A2, ws.length, c2, f, h, ws⟩ HBT.out HFF.out.1 HFF.out.2 HDD.out).mono ?_
       rintro q w9 ⟨v9, rfl, hv9, hb9⟩
       obtain ⟨⟨eb, pb⟩, hbr⟩ : ∃ x, bright f h ws = x := ⟨_, rfl⟩
       have HBR := Lib.hid hbr
       simp only at hv9
       rw [hbr] at hv9
       have hT9 := HTT.out.grown (grown_of hb9 none) (by simp)
       obtain ⟨x0, x1, xf0, xf1⟩ := hT9
       rw [errV_zero] at x1
       have ol9 := OLL.out.below OSS.out hb9
       clear hbr t0 t1 tf0 tf1 b0 b1 b2' bf0 bf1 bf2 hb9
       by_cases hb : eb = 0
       ·subst hb
        obtain ⟨rfl, rfl⟩ := ErrIs.zero hv9
        have ol10 := ol9.grown OSS.out (grown_set w9 w2.heap.size 1 .nilIface)
        have y1 : (w9.setCell ⟨w2.heap.size, 1, none⟩ .nilIface).cell? ⟨w2.heap.size, 1, none⟩ = some .nilIface := World.cell?_setCell_same _ _ _ x1
        have HXE := Lib.hid (show oread s = ((f, h, ws), 0, -1) from HXX.out.symm.trans (HX9.out.trans (oend_ok HEND.out (by rw [HBR.out]))))
        have hO := ol10.o
        have hZ := hO.put (.slice A0 f.length c0) (.slice A1 h.length c1) (.slice A2 ws.length c2)
        have bZ := below_put3 ol10.bel LO.out (.slice A0 f.length c0) (.slice A1 h.length c1) (.slice A2 ws.length c2)
        have OS2 := OSS.out
        have R0 := own_set (j := 2) (.slice A2 ws.length c2) (own_set (j := 1) (.slice A1 h.length c1) (own_set (j := 0) (.slice A0 f.length c0) ol10.f OS2.O1) OS2.O1) OS2.O1
        have R1 := own_set (j := 2) (.slice A2 ws.length c2) (own_set (j := 1) (.slice A1 h.length c1) (own_set (j := 0) (.slice A0 f.length c0) ol10.h OS2.O2) OS2.O2) OS2.O2
        have R2 := own_set (j := 2) (.slice A2 ws.length c2) (own_set (j := 1) (.slice A1 h.length c1) (own_set (j := 0) (.slice A0 f.length c0) ol10.ws OS2.O2) OS2.O2) OS2.O2
        have HRR := Lib.hid (And.intro R0 (And.intro R1 R2))
        have HBZ := Lib.hid bZ
        have HLL := Lib.hid (OrL.mk (HLE.out.1) (HLE.out.2.1) (HLE.out.2.2))
        obtain ⟨b0, b1, b2', bf0, bf1, bf2⟩ := ol10.bx
        obtain ⟨u0, u1, u2, j0, j1, j2⟩ := hO
        clear ol9 ol10 hv9 bZ R0 R1 R2 OS2
        go_wp2
        unfold put3 at hZ HBZ
        obtain ⟨z0, z1, z2, _, _, _⟩ := hZ
        exact bodyPost_ret (v := .tuple #[.agg #[.slice A0 f.length c0, .slice A1 h.length c1, .slice A2 ws.length c2], .nilIface]) (by simp [results, Tryz.results17, go_sem, z0, z1, z2]) rfl ⟨⟨A0, f.length, c0, A1, h.length, c1, A2, ws.length, c2, f, h, ws⟩, .nilIface, rfl, ⟨Sl.of_own HRR.out.1, Sl.of_own HRR.out.2.1, Sl.of_own HRR.out.2.2, HLL.out.a, HLL.out.b, HLL.out.c⟩, by rw [HXE.out], ⟨own_cap HRR.out.1, own_cap HRR.out.2.1⟩, by rw [HXE.out]; exact .none, HBZ.out⟩
       ·obtain ⟨ty, u, rfl⟩ := ferr_some hv9 hb
        have ol10 := ol9.grown OSS.out (grown_set w9 w2.heap.size 1 (.iface ty u))
        have hv10 := err_set (x := .iface ty u) hv9 x1
        have y1 : (w9.setCell ⟨w2.heap.size, 1, none⟩ (.iface ty u)).cell? ⟨w2.heap.size, 1, none⟩ = some (.iface ty u) := World.cell?_setCell_same _ _ _ x1
        have HXE := Lib.hid (show oread s = bad0 eb from HXX.out.symm.trans (HX9.out.trans ((oend_bad HEND.out (by rw [HBR.out]; exact hb)).trans (by rw [HBR.out]))))
        have HE := Lib.hid hb
        clear hb hv9 ol9
        go_wp2_with fail
        refine (tell_any hv10 ol10.hd).mono ?_
        rintro q w11 ⟨rfl, hb11⟩
        have b9 := ol10.bel.trans (hb11.mono ol10.bel.size)
        have hO := ol10.o.below hb11
        have hZ := hO.put nilS nilS nilS
        have bZ := below_put3 b9 LO.out nilS nilS nilS
        obtain ⟨u0, u1, u2, j0, j1, j2⟩ := hO
        go_wp2
        unfold put3 at hZ bZ
        obtain ⟨z0, z1, z2, _, _, _⟩ := hZ
        exact bodyPost_ret (v := .tuple #[.agg #[nilS, nilS, nilS], .iface 27 (.int .i64 eb)]) (by simp [results, Tryz.results17, go_sem, z0, z1, z2]) rfl (rend_no HXE.out (.bare eb HE.out) bZ)
     ·obtain ⟨t0, t1, tf0, tf1⟩ := hT
      rw [errV_of he] at t1
      have HE := Lib.hid he
      have HX9 := Lib.hid hX
      have hTl : ErrIs wr (.iface 27 (.int .i64 e)) e (-1) := .bare e he
      clear he hX
      go_wp2_with fail
      refine (tell_any hTl ol.hd).mono ?_
      rintro q w9 ⟨rfl, hb9⟩
      have b9 := ol.bel.trans (hb9.mono ol.bel.size)
      have hO := ol.o.below hb9
      have hZ := hO.put nilS nilS nilS
      have bZ := below_put3 b9 LO.out nilS nilS nilS
      obtain ⟨u0, u1, u2, j0, j1, j2⟩ := hO
      go_wp2
      unfold put3 at hZ bZ
      obtain ⟨z0, z1, z2, _, _, _⟩ := hZ
      exact bodyPost_ret (v := .tuple #[.agg #[nilS, nilS, nilS], .iface 27 (.int .i64 e)]) (by simp [results, Tryz.results17, go_sem, z0, z1, z2]) rfl (rend_no (HXX.out.symm.trans HX9.out) (.bare e HE.out) bZ)
  ·have HX := Lib.hid (oread_two HY.out)
   clear d2
   go_wp2_with fail
   refine (bodyread_any T _ hTs (hg.below b2)).mono ?_
   rintro r w5 ⟨x, ve, rfl, hx, hx2, hcap, hev, hb5⟩
   have b5 := b2.trans (hb5.mono b2.size)
   replace hO := hO.below hb5
   have hZ := hO.put (.slice x.A x.n x.c) (.slice x.A' x.n' x.c') (.slice x.A'' x.n'' x.c'')
   have bZ := below_put3 b5 LO.out (.slice x.A x.n x.c) (.slice x.A' x.n' x.c') (.slice x.A'' x.n'' x.c'')
   have hx8 := bat_put3 (a := .slice x.A x.n x.c) (b := .slice x.A' x.n' x.c') (c := .slice x.A'' x.n'' x.c'') hx hO
   have hev8 := err_put3 (a := .slice x.A x.n x.c) (b := .slice x.A' x.n' x.c') (c := .slice x.A'' x.n'' x.c'') hev hO
   obtain ⟨u0, u1, u2, j0, j1, j2⟩ := hO
   unfold BatArg.v
   go_wp2
   unfold put3 at hZ bZ hx8 hev8
   obtain ⟨z0, z1, z2, _, _, _⟩ := hZ
   exact bodyPost_ret (v := .tuple #[x.v, ve]) (by simp [results, Tryz.results17, go_sem, z0, z1, z2, BatArg.v]) rfl ⟨x, ve, rfl, hx8, by rw [HX.out, ← HT.out]; exact hx2, hcap, by rw [HX.out, ← HT.out]; exact hev8, bZ⟩
  ·have H := Lib.hid (oread_three HY.out)
   clear d2 d3
   have hZ := hO.put nilS nilS nilS
   have bZ := below_put3 b2 LO.out nilS nilS nilS
   obtain ⟨u0, u1, u2, j0, j1, j2⟩ := hO
   go_wp2
   unfold put3 at hZ bZ
   obtain ⟨z0, z1, z2, _, _, _⟩ := hZ
   exact bodyPost_ret (v := .tuple #[.agg #[nilS, nilS, nilS], .iface 27 (.int .i64 6)]) (by simp [results, Tryz.results17, go_sem, z0, z1, z2]) rfl (rend_no H.out (.bare 6 (by decide)) bZ)
 ·have H := Lib.hid (oread_ver HY.out he)
  have HE := Lib.hid he
  rw [errV_of he]
  clear he
  have hZ := hO.put nilS nilS nilS
  have bZ := below_put3 b1 LO.out nilS nilS nilS
  obtain ⟨u0, u1, u2, j0, j1, j2⟩ := hO
  go_wp2
  unfold put3 at hZ bZ
  obtain ⟨z0, z1, z2, _, _, _⟩ := hZ
  exact bodyPost_ret (v := .tuple #[.agg #[nilS, nilS, nilS], .iface 27 (.int .i64 e)]) (by simp [results, Tryz.results17, go_sem, z0, z1, z2]) rfl (rend_no H.out (.bare e HE.out) bZ)
end Go.Proofs.YtkejlnjnoiidnaaGreatDoor
end

section
namespace Go.Proofs.YtkejlnjnoiidnaaGreatDoor
open Go.RowKit
theorem below1' (w : World) (o : Obj) : Below w.heap.size w (w.alloc o) := (Below.refl _ _).alloc (Nat.le_refl _) o
end Go.Proofs.YtkejlnjnoiidnaaGreatDoor
end

section
namespace Go.Proofs.YtkejlnjnoiidnaaGreatDoor
open Go.RowKit
def batSame (a b : BatArg) : Bool := decide (a.f = b.f) && (decide (a.h = b.h) && decide (a.l = b.l))
theorem below2' (w : World) (o o' : Obj) : Below w.heap.size w ((w.alloc o).alloc o') := (below1' w o).alloc (by simp) o'
theorem batSame_1 {a b : BatArg} (x1 : a.f = b.f) (x2 : a.h = b.h) : batSame a b = decide (a.l = b.l) := by unfold batSame; rw [decide_eq_true x1, decide_eq_true x2]; rfl
theorem batSame_2 {a b : BatArg} (x2 : ¬ a.h = b.h) : batSame a b = false := by unfold batSame; rw [decide_eq_false x2, Bool.false_and, Bool.and_false]
theorem batSame_3 {a b : BatArg} (x1 : ¬ a.f = b.f) : batSame a b = false := by unfold batSame; rw [decide_eq_false x1, Bool.false_and]
theorem rsame_any (a b : BatArg) (w : World) (ha : Bat w a) (hb : Bat w b) :
  Calls Tryz.prog 18 #[a.v, b.v] w fun e w' => e = .returned (.bool (batSame a b)) ∧ Below w.heap.size w w' := by
 obtain ⟨A, n, c, A', n', c', A'', n'', c'', f, h, l⟩ := a
 obtain ⟨B, m, d, B', m', d', B'', m'', d'', f', h', l'⟩ := b
 obtain ⟨a1, a2, a3, a4, a5, a6⟩ := ha
 obtain ⟨b1, b2, b3, b4, b5, b6⟩ := hb
 simp only [BatArg.v] at *
 have hbel : Below w.heap.size w ((w.alloc (.cells #[.slice A n c, .slice A' n' c', .slice A'' n'' c''] 25)).alloc (.cells #[.slice B m d, .slice B' m' d', .slice B'' m'' d''] 25)) := below2' _ _ _
 have c1 := a1.grow hbel
 have c2 := a2.grow hbel
 have c3 := a3.grow hbel
 have e1 := b1.grow hbel
 have e2 := b2.grow hbel
 have e3 := b3.grow hbel
 by_cases x1 : f = f'
 ·by_cases x2 : h = h'
  ·have hs := Lib.hid (batSame_1 (a := ⟨A, n, c, A', n', c', A'', n'', c'', f, h, l⟩) (b := ⟨B, m, d, B', m', d', B'', m'', d'', f', h', l'⟩) x1 x2)
   go_enter Tryz.func18, Tryz.ntmps18
   go_wp2_with fail
   refine (same_ents _ _ _ _ _ _ _ _ _ c1 e1 a4 b4).mono ?_
   rintro e w' ⟨rfl, q, rfl⟩
   rw [decide_eq_true x1]
   go_wp2_with fail
   refine (same_ents _ _ _ _ _ _ _ _ _ (by exact c2) (by exact e2) a5 b5).mono ?_
   rintro e w' ⟨rfl, q', rfl⟩
   rw [decide_eq_true x2]
   go_wp2_with fail
   refine (same_wrs _ _ _ _ _ _ _ _ _ (by exact c3) (by exact e3) a6 b6).mono ?_
   rintro e w' ⟨rfl, q'', rfl⟩
   go_wp2_with fail
   go_ret
   exact ⟨retB (by rw [hs.out]), below_drewN hbel _⟩
  ·have hs := Lib.hid (batSame_2 (a := ⟨A, n, c, A', n', c', A'', n'', c'', f, h, l⟩) (b := ⟨B, m, d, B', m', d', B'', m'', d'', f', h', l'⟩) x2)
   go_enter Tryz.func18, Tryz.ntmps18
   go_wp2_with fail
   refine (same_ents _ _ _ _ _ _ _ _ _ c1 e1 a4 b4).mono ?_
   rintro e w' ⟨rfl, q, rfl⟩
   rw [decide_eq_true x1]
   go_wp2_with fail
   refine (same_ents _ _ _ _ _ _ _ _ _ (by exact c2) (by exact e2) a5 b5).mono ?_
   rintro e w' ⟨rfl, q', rfl⟩
   rw [decide_eq_false x2]
   go_wp2_with fail
   go_ret
   exact ⟨retB (by rw [hs.out]), below_drewN hbel _⟩
 ·have hs := Lib.hid (batSame_3 (a := ⟨A, n, c, A', n', c', A'', n'', c'', f, h, l⟩) (b := ⟨B, m, d, B', m', d', B'', m'', d'', f', h', l'⟩) x1)
  go_enter Tryz.func18, Tryz.ntmps18
  go_wp2_with fail
  refine (same_ents _ _ _ _ _ _ _ _ _ c1 e1 a4 b4).mono ?_
  rintro e w' ⟨rfl, q, rfl⟩
  rw [decide_eq_false x1]
  go_wp2_with fail
  go_ret
  exact ⟨retB (by rw [hs.out]), below_drewN hbel _⟩
end Go.Proofs.YtkejlnjnoiidnaaGreatDoor
end

section
namespace Go.Proofs.YtkejlnjnoiidnaaGreatDoor
open Go.ChangeShapes Go.WideShapes Go.ChangeAt Go.RowKit
open Go.ChangeMaps (open_string)
section
variable {H : Type} {enc : TypeId × Value → H} {P : Program} {w : World} {base : Nat} {spare : Nat → Bool} {held : Bool}

end
end Go.Proofs.YtkejlnjnoiidnaaGreatDoor
end

section
namespace Go.Proofs.YtkejlnjnoiidnaaGreatDoor
set_option linter.unusedSimpArgs false
set_option linter.unusedVariables false
open Go.RowKit As
theorem batSame_refl {a b : BatArg} {z : List Ent × List Ent × List Wr} (h1 : (a.f, a.h, a.l) = z) (h2 : (b.f, b.h, b.l) = z) : batSame a b = true := by
 subst h1
 injection h2 with e1 h2
 injection h2 with e2 e3
 unfold batSame
 rw [decide_eq_true e1.symm, decide_eq_true e2.symm, decide_eq_true e3.symm]
 rfl
set_option maxHeartbeats 2000000 in
set_option maxRecDepth 100000 in
theorem walkOldReads (s : ByteArray) (w : World) (hs : s.size ≤ maxLen) (hg : Handle w) :
  Calls Tryz.prog 5 #[.string s] w fun e w' => e = .returned (.bool true) ∧ Below w.heap.size w w' := by
 unfold maxLen at hs
 by_cases hbig : 2000 < s.size
 ·have d0 : decide (2000 < (s.size : Int)) = true := by simp only [decide_eq_true_eq]; omega
  go_enter Tryz.func5, Tryz.ntmps5
  go_wp2
  go_ret
  exact ⟨rfl, Below.refl _ _⟩
 ·have d0 : decide (2000 < (s.size : Int)) = false := by simp only [decide_eq_false_iff_not]; omega
  have hS : s.size ≤ 1000000 := by omega
  go_enter Tryz.func5, Tryz.ntmps5
  go_wp2_with fail
  refine (rold_any s w hS).mono ?_
  rintro e w1 ⟨x, rfl, hx, hx2, _, hb1⟩
  have bB := below1 w1 (.cells #[.slice x.A x.n x.c, .slice x.A' x.n' x.c', .slice x.A'' x.n'' x.c''] 25)
  have kB := BxAt.new w1 x
  have bF := below1 (w1.alloc (.cells #[.slice x.A x.n x.c, .slice x.A' x.n' x.c', .slice x.A'' x.n'' x.c''] 25)) (.cells #[.int .i64 (oread s).2.1, .int .i64 (oread s).2.2] 29)
  have hF := Two.new (w1.alloc (.cells #[.slice x.A x.n x.c, .slice x.A' x.n' x.c', .slice x.A'' x.n'' x.c''] 25)) (oread s).2.1 (oread s).2.2 29
  simp only [World.size_alloc] at hF
  have b1 := hb1.trans (bB.mono hb1.size)
  have b2 := b1.trans (bF.mono b1.size)
  have kB2 := kB.below bF
  have hX2 := (hx.grow bB).grow bF
  unfold faultV
  unfold BatArg.v
  go_wp2_with fail
  refine (oldread_any s _ hS (hg.below b2)).mono ?_
  rintro e w2 ⟨y, ve, rfl, hy, hy2, _, hev, hb2⟩
  have b3 := b2.trans (hb2.mono b2.size)
  have bY := below1 w2 (.cells #[.slice y.A y.n y.c, .slice y.A' y.n' y.c', .slice y.A'' y.n'' y.c''] 25)
  have kY := BxAt.new w2 y
  have b4 := b3.trans (bY.mono b3.size)
  have hX4 := (hX2.grow hb2).grow bY
  have hY4 := hy.grow bY
  have kB4 := (kB2.below hb2).below bY
  have F4 := (hF.below hb2).below bY
  have E4 := hev.below bY
  have HS := Lib.hid (batSame_refl hx2 hy2)
  clear hx hy hx2 hy2 hF kB kB2 hX2 hev bB bF bY hb1 hb2 b1 b2 b3
  generalize (oread s).2.1 = ee at *
  generalize (oread s).2.2 = pp at *
  obtain ⟨g0, g1, _, _⟩ := F4
  unfold BatArg.v
  go_wp2_with fail
  refine (placed_any E4 (hg.below b4) ee pp).mono ?_
  rintro r w5 ⟨rfl, hb5⟩
  have b5 := b4.trans (hb5.mono b4.size)
  have hX5 := hX4.grow hb5
  have hY5 := hY4.grow hb5
  obtain ⟨p0, p1, p2⟩ := kB4.below hb5
  obtain ⟨q0, q1, q2⟩ := kY.below hb5
  rw [decide_eq_true ⟨rfl, rfl⟩]
  go_wp2_with fail
  refine (rsame_any x y w5 hX5 hY5).mono ?_
  rintro r w6 ⟨rfl, hb6⟩
  rw [HS.out]
  go_wp2
  go_ret
  exact ⟨by first | rfl | simp, b5.trans (hb6.mono b5.size)⟩
end Go.Proofs.YtkejlnjnoiidnaaGreatDoor
end
