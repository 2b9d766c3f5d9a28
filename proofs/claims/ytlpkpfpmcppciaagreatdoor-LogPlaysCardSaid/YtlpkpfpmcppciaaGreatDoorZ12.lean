/- The store's Cells.

What a write leaves of the store.

slices.Insert of one text into a row of one's own. -/
import Derived.Test.YtlpkpfpmcppciaaGreatDoorZ11b
import Derived.Lib.Hide
import Derived.Deep.DeepCutAuto
import Derived.Deep.Cut
import Derived.Deep.CutBlock
import Derived.Deep.DeepAppendWide
import Derived.OwnWalk
import Derived.Test.YtlpkpfpmcppciaaGreatDoorZ9b
import Derived.Test.YtlpkpfpmcppciaaGreatDoorZ1
import Derived.Test.YtlpkpfpmcppciaaGreatDoorZ10
import Derived.Test.YtlpkpfpmcppciaaGreatDoorShelfStore
section
namespace Go.Proofs.YtlpkpfpmcppciaaGreatDoor
set_option linter.unusedSimpArgs false
set_option linter.unusedVariables false
open Go.RowKit Go.Maps
theorem celInfo : (Tryz.prog.info? 90).map (fun i => (i.zero, i.size, i.bytes)) = some (some (.agg #[.string ⟨#[]⟩, .bool false, .string ⟨#[]⟩, .int .i64 0, .slice none 0 0]), 5, 72) := by kernel_rfl
theorem cells_at (W : World) (vs : List Value) (t : TypeId) : ∀ j u, vs[j]? = some u → (W.alloc (.cells vs.toArray t)).cell? ((⟨W.heap.size, 0, none⟩ : Addr).add j) = some u := by
 intro j u hj
 rw [show (⟨W.heap.size, 0, none⟩ : Addr).add j = ⟨W.heap.size, 0 + j, none⟩ from by unfold Addr.add; split <;> simp_all, Nat.zero_add, World.cell?_alloc_new]
 simpa using hj
theorem cl_len {k S n : Nat} (h : k ≤ S) (hS : S ≤ n) (hn : n ≤ 2200000000000) : k + 1 ≤ maxLen ∧ ((k + 1) + (k + 1) / 4 + 192) * 72 ≤ 281474976710656 := by
 unfold maxLen
 omega
theorem ranges_turned {F : Nat → Prop} {w w' : World} {P : Program} {k : TypeId} {R : Value → Option (DataW Unit × List MemPlace)} {b r n cnt : Nat} {D : DataW Unit} {left : Lit → Bool} (h : w.ranges P k R b r n D left cnt) (ht : Turned F w w') (hb : ¬ F b) (hr : ¬ F r) : w'.ranges P k R b r n D left cnt := by
 have h1 := h.owns.lt
 have h2 := h.lt
 obtain ⟨es, clock, since, seen, c0, hb', F', hs, hD, hr', rest⟩ := h
 exact ⟨es, clock, since, seen, c0, (ht.block b h1 hb).trans hb', F', hs, hD, (ht.block r h2 hr).trans hr', rest⟩
set_option maxHeartbeats 4000000 in
set_option maxRecDepth 100000 in
theorem scells_any {w : World} {B s m n : Nat} {fp : FP} (h : SR w B s m n fp) (hn : n ≤ 2200000000000) :
  Calls Tryz.prog 13 #[.pointer (some ⟨s, 0, none⟩)] w fun e w' => ∃ v o, e = .returned v ∧ OutR w' w.heap.size v o ∧ OutOf fp.sto o ∧ Below w.heap.size w w' := by
 obtain ⟨i0, hi, hz0, hz1, hz2⟩ := info_parts celInfo
 obtain ⟨D, hown, hd⟩ := h.pm
 have c0 := (h.root 0 _ rfl).1
 have HSR := Lib.hid h
 have hml := h.sl.2.2.2.1
 have HDS := Lib.hid hown.size_le
 have HD := Lib.hid hd
 have HN := Lib.hid hn
 clear h hd hn
 go_enter Tryz.func13, Tryz.ntmps13
 go_wp2_with (first
  | (at_range; refine wpList_range_own _ rfl _ _ rfl 9 87 pm_law pm_under ptrElem m n D rfl hown ?_; intro w1 hrg0 hg0 hs0))
 have hb0 : Below w.heap.size w w1 := ⟨hg0.os, hg0.tape, hg0.output, hg0.size, fun i hi => hg0.block i hi (by simp)⟩
 simp [Act.put]
 go_wp2
 go_loopw [3, 5, 6] (fun ov _ _ wr => ∃ (ks : List ByteArray) (L : List CelX) (left : Lit → Bool) (cnt : Nat), wr.ranges Tryz.prog 9 ptrElem m w.heap.size n D left cnt ∧ wr.ownsRow w.heap.size 90 5 ov L.length (L.flatMap celV) ∧ (∀ x ∈ L, LstOk wr w.heap.size x) ∧ Hid (Seen fp left ks L (Maps.size D) cnt) ∧ Below w.heap.size w wr) (fun _ _ _ wr => wr.rangeLeft m w.heap.size)
 case atStart => exact ⟨[], [], _, _, hrg0, World.ownsRow_nil _ _ _ _, (fun _ hx => absurd hx (List.not_mem_nil)), Lib.hid (Seen.start HD.out), hb0⟩
 case round =>
  clear hrg0 hg0 hb0 hs0 hown c0
  obtain ⟨ks, L, left, cnt, hrg, ho, hLs, HG, hb⟩ := hrel
  go_wp2_with (first
   | (at_next; refine wpList_next_ranges _ rfl _ rfl 9 pm_law ptrElem Value.string ptrV (fun key kl hk => by obtain ⟨x, e, _⟩ := pm_key_inv hk; exact ⟨x, e⟩) (fun v y hv => ptr_inv hv) m w.heap.size n D left cnt rfl hrg ?_ ?_))
  ·intro h0 hl0
   have HL0 := Lib.hid hl0
   have HLS := Lib.hid hLs
   have hle : L.length < 4611686018427387904 := by have := HG.out.le; have := HDS.out; have := HN.out; omega
   clear hl0 hLs
   go_wp2_with fail
   refine (ssort_any ho hle).mono ?_
   rintro r w2 ⟨rfl, L', hp, hs, ho2, ht2⟩
   have hout := HG.out.out HL0.out hp hs
   have hb2 : Below w.heap.size w w2 := hb.trans (ht2.below (fun i hi => (ho.lt i hi).1) hb.size)
   have hLs2 : ∀ x ∈ L', LstOk w2 w.heap.size x := fun x hx => by
    have hx1 := HLS.out x (hp.mem_iff.1 hx)
    refine hx1.turned ht2 fun k hk e => ?_
    rcases own_ne hx1.1 ho (by decide) with h1 | h1
    ·rw [h1] at hk; cases hk
    ·exact h1 (hk.trans e.symm)
   go_wp2
   go_ret
   exact ⟨_, L'.map cutX, rfl, ⟨L', rfl, ho2, hLs2⟩, hout, hb2⟩
  ·intro x c kl ya yb w1 cnt1 hkey hlk hv hat hrg1 hlt hg1 hs1 hen
   obtain ⟨x', e1, rfl⟩ := pm_key_inv hkey
   injection e1 with e1
   subst e1
   obtain ⟨p, X, hfp⟩ := HG.out.there hlk
   obtain rfl : c = some p := by
    have h1 := (HD.out.yes x p (by unfold FP.pl; rw [hfp]; rfl)).2 .nil
    rw [hat] at h1
    cases c with
    | none =>
     simp only [ptrV, ptrElem, Option.some.injEq, Prod.mk.injEq] at hv
     rw [← hv.1] at h1
     cases h1
    | some q =>
     simp only [ptrV, ptrElem, Option.some.injEq, Prod.mk.injEq] at hv
     rw [← hv.1] at h1
     injection h1 with h1
     injection h1 with _ h1
     have : q = p := by omega
     rw [this]
   simp only [ptrV] at hen ⊢
   have hne := Go.row_ne_iter ho hrg
   have ho1 := ho.kept hg1 (.inr (fun e => hne e.symm))
   have hlow := Go.row_ne_low ho (b := m) hml
   have hbw : Below w.heap.size w w1 := hb.grown hg1 hb.size (fun k hk => by injection hk with hk; omega)
   have SR1 := HSR.out.below hbw
   obtain ⟨⟨hC, hLX⟩, hXk, _, hXn⟩ := SR1.cel x p X hfp
   have HXN : Hid (X.2.1.list.length * 16 ≤ 140737488355328) := Lib.hid (by have := HN.out; omega)
   have HFP : Hid (fp.sto x = some X.2.1) := Lib.hid (by unfold FP.sto; rw [hfp]; rfl)
   have HXK := Lib.hid hXk
   have HLK := Lib.hid hlk
   have HLT := Lib.hid hlt
   have hLs1 : ∀ y ∈ L, LstOk w1 w.heap.size y := fun y hy => by
    have hy1 := hLs y hy
    refine hy1.turned (Turned.of_grown (S := fun i => i = w.heap.size) hg1 rfl) fun k hk e => ?_
    have := hy1.lt k hk
    subst e
    obtain ⟨_, _, _, _, _, _, _, _, _, hit, _⟩ := hrg
    rcases hy1.1.2 with ⟨e', _⟩ | ⟨g', cap', cur', e', _, hg', _⟩
    ·rw [e'] at hk; cases hk
    ·rw [e'] at hk
     injection hk with hk
     simp only at hk
     rw [hk, hit] at hg'
     cases hg'
   have c1 := (hC 1 _ rfl).1
   have c3 := (hC 3 _ rfl).1
   have c4 := (hC 4 _ rfl).1
   have c0 := (hC 0 _ rfl).1
   have c2 := (hC 2 _ rfl).1
   have HLen := Lib.hid hLX.len
   simp only [CelX.lv] at c4
   rw [HLen.out] at c4
   have HLSI := Lib.hid (And.intro hrg1.left_eq hrg.left_eq)
   have HLS1 := Lib.hid hLs1
   have HNE := Lib.hid (And.intro hne hlow)
   have HLX := Lib.hid hLX
   have HC := Lib.hid hC
   have HB := Lib.hid hbw
   clear hrg ho hLs hb hlk hlt hkey hv hat hg1 hs1 hne hlow hXk hXn hLX SR1 hfp hLs1 hC
   go_upto_region 5 with fail
   go_cut [34] (fun v wx => v = .bool X.2.1.full ∧ wx = w1)
   case first =>
    have HF : Hid (X.2.1.full = (X.2.1.has || (X.2.1.sum != 0) || decide (0 < X.2.1.list.length))) := Lib.hid rfl
    obtain ⟨hs, hhs⟩ : ∃ y, y = X.2.1.has := ⟨_, rfl⟩
    obtain ⟨sm, hsm⟩ : ∃ y, y = X.2.1.sum := ⟨_, rfl⟩
    obtain ⟨ln, hln⟩ : ∃ y, y = X.2.1.list.length := ⟨_, rfl⟩
    rw [← hhs] at c1
    rw [← hsm] at c3
    rw [← hln] at c4
    rw [← hhs, ← hsm, ← hln] at HF
    clear hhs hsm hln c0 c2
    cases hs with
    | true =>
     go_wp2
     go_meet
     exact ⟨by rw [HF.out]; rfl, rfl⟩
    | false =>
     by_cases h0 : sm = 0
     ·have d0 : (sm != 0) = false := by rw [h0]; rfl
      by_cases h1 : 0 < ln
      ·have d1 : decide ((0 : Int) < (ln : Int)) = true := decide_eq_true (by omega)
       have HV : Hid ((false || (sm != 0) || decide (0 < ln)) = true) := Lib.hid (by rw [h0]; simp [h1])
       have HD1 : Hid (decide (0 < ln) = true) := Lib.hid (decide_eq_true h1)
       clear h0 h1
       go_wp2
       go_meet
       exact ⟨by rw [HF.out, HV.out, HD1.out], rfl⟩
      ·have d1 : decide ((0 : Int) < (ln : Int)) = false := decide_eq_false (by omega)
       have HV : Hid ((false || (sm != 0) || decide (0 < ln)) = false) := Lib.hid (by rw [h0]; simp [h1])
       have HD1 : Hid (decide (0 < ln) = false) := Lib.hid (decide_eq_false h1)
       clear h0 h1
       go_wp2
       go_meet
       exact ⟨by rw [HF.out, HV.out, HD1.out], rfl⟩
     ·have d0 : (sm != 0) = true := bne_iff_ne.2 h0
      have HV : Hid ((false || (sm != 0) || decide (0 < ln)) = true) := Lib.hid (by rw [d0]; rfl)
      clear h0
      go_wp2
      go_meet
      exact ⟨by rw [HF.out, HV.out], rfl⟩
   case rest =>
    obtain ⟨rfl, rfl⟩ := hcut
    cases hf : X.2.1.full with
    | false =>
     have HG2 := Lib.hid (HG.out.no HLK.out HLT.out HFP.out hf)
     clear hf c0 c1 c2 c3 c4
     go_wp2
     go_roundw
     case rel =>
      exact ⟨ks ++ [x], L, _, cnt1, hrg1, ho1, HLS1.out, HG2, HB.out⟩
     case measure => rw [HLSI.out.1, HLSI.out.2]; exact HLT.out
    | true =>
     have HF := Lib.hid hf
     clear hf
     go_upto_region 7 with fail
     have HXL := Lib.hid HLX.out.slice
     have hE : (celV X).toArray = #[.string X.1, .bool X.2.1.has, .string X.2.1.text, .int .i64 X.2.1.sum, .slice X.2.2.1 X.2.1.list.length X.2.2.2.2] := by unfold celV; rw [HXL.out]
     have hx2 := RC.new wc (celV X) 90
     have b2 := bel1 wc (.cells (celV X).toArray 90)
     have hrg2 := hrg1.alloc (.cells (celV X).toArray 90)
     have ho2 := ho1.alloc (.cells (celV X).toArray 90)
     have hLs2 : ∀ y ∈ L, LstOk (wc.alloc (.cells (celV X).toArray 90)) w.heap.size y := fun y hy => (HLS1.out y hy).below b2
     have hLX2 := HLX.out.below b2
     have hC2 := HC.out.below b2
     have hb2 := HB.out.trans (b2.mono HB.out.size)
     have HSZ := Lib.hid HB.out.size
     have hgl := cell_lt (hx2 0 _ rfl).1
     have HPX : Hid (p < wc.heap.size) := Lib.hid (cell_lt (HC.out 0 _ rfl).1)
     rw [hE] at hx2 b2 hrg2 ho2 hLs2 hLX2 hC2 hb2 hgl
     obtain ⟨gx, hgx⟩ : ∃ g, g = wc.heap.size := ⟨_, rfl⟩
     rw [← hgx] at hx2 hgl HSZ HPX ⊢
     have HGX := Lib.hid hgx
     have HG2 := fun Y h1 h2 => HG.out.yes (Y := Y) HLK.out HLT.out h1 h2
     have HG3 := Lib.hid HG2
     have HGL := Lib.hid hgl
     have HOX : Hid (∀ k, u3.ownBlock = some k → k < gx) := Lib.hid (fun k hk => by rw [hgx]; exact (ho1.lt k hk).2)
     have HLX3 : Hid (∀ y ∈ L, ∀ k, y.lv.ownBlock = some k → k < gx) := Lib.hid (fun y hy k hk => by rw [hgx]; exact ((HLS1.out y hy).lt k hk).2)
     have HMX : Hid (m ≠ gx) := Lib.hid (by rw [hgx]; have := HB.out.size; omega)
     have HRX : Hid (w.heap.size ≠ gx) := Lib.hid (by rw [hgx]; have := hrg1.lt; omega)
     clear hgx HG2 b2 hgl hE c0 c1 c2 c3 c4 HLS1 HLX HC HB hrg1 ho1
     generalize wc.alloc (.cells #[.string X.1, .bool X.2.1.has, .string X.2.1.text, .int .i64 X.2.1.sum, .slice X.2.2.1 X.2.1.list.length X.2.2.2.2] 90) = W2 at *
     have c4 := (hC2 4 _ rfl).1
     rw [HXL.out] at c4
     have hcl := clone_any hLX2 HXN.out
     rw [HXL.out] at hcl
     have HX2 := Lib.hid hx2
     clear hLX2 hC2 hx2
     go_upto_region 8 with (first
      | (go_at_call 40; refine hcl.mono ?_; rintro r w3 ⟨A, nl, cl, rfl, hA, hb3⟩; have k4 := (HX2.out.below hb3 4 _ rfl).1; have f4 := (HX2.out.below hb3 4 _ rfl).2))
     obtain ⟨Y, hY⟩ : ∃ Y : CelX, Y = (X.1, X.2.1, A, nl, cl) := ⟨_, rfl⟩
     have T4 : Turned (fun i => i = gx) W2 (w3.setCell ⟨gx, 4, none⟩ (.slice A nl cl)) := (Turned.of_below hb3).trans (.set _ 4 _ rfl)
     have rc4 : RC (w3.setCell ⟨gx, 4, none⟩ (.slice A nl cl)) gx (celV Y) := by
      rw [hY]
      exact (HX2.out.below hb3).set 4 (.slice A nl cl) (by simp [celV])
     have hY4 : LstOk (w3.setCell ⟨gx, 4, none⟩ (.slice A nl cl)) w.heap.size Y := by
      rw [hY]
      exact (hA.turned (F := fun i => i = gx) (.set _ 4 _ rfl) (fun k hk e => by have h1 := (hA.lt k hk).1; have h2 : gx < W2.heap.size := HGL.out; have h3 : k = gx := e; have h1' : W2.heap.size ≤ k := h1; omega)).less hb2.size
     have hrg4 := ranges_turned hrg2 T4 HMX.out HRX.out
     have ho4 := T4.own ho2 (fun k hk e => by have := HOX.out k hk; omega)
     have hLs4 : ∀ y ∈ L, LstOk (w3.setCell ⟨gx, 4, none⟩ (.slice A nl cl)) w.heap.size y := fun y hy => (hLs2 y hy).turned T4 (fun k hk e => by have := HLX3.out y hy k hk; omega)
     have hb4 := hb2.trans (T4.below (fun i hi => by rw [hi]; exact HSZ.out) hb2.size)
     have HY1 : Hid (fp.sto x = some Y.2.1 ∧ Y.1 = x ∧ Y.2.1.full = true) := Lib.hid (by rw [hY]; exact ⟨HFP.out, HXK.out, HF.out⟩)
     have HE : Hid (celV Y = [.string X.1, .bool X.2.1.has, .string X.2.1.text, .int .i64 X.2.1.sum, .slice A nl cl]) := Lib.hid (by rw [hY]; rfl)
     have k0 := (rc4 0 (.string X.1) (by rw [HE.out]; rfl)).1
     have k1 := (rc4 1 (.bool X.2.1.has) (by rw [HE.out]; rfl)).1
     have k2 := (rc4 2 (.string X.2.1.text) (by rw [HE.out]; rfl)).1
     have k3 := (rc4 3 (.int .i64 X.2.1.sum) (by rw [HE.out]; rfl)).1
     have q4 := (rc4 4 (.slice A nl cl) (by rw [HE.out]; rfl)).1
     have HLS4 := Lib.hid hLs4
     have HYL := Lib.hid hY4
     have HLE := Lib.hid (cl_len (Nat.le_trans (Nat.le_add_right _ _) HG.out.le) HDS.out HN.out)
     clear hY T4 rc4 hA hb3 k4 f4 c4 hcl hrg2 ho2 hLs2 hb2 hLs4 hY4
     generalize w3.setCell ⟨gx, 4, none⟩ (.slice A nl cl) = W4 at *
     have hb4s := hb4.size
     go_wp2_with (first
      | (at_builtin; refine wpList_append_own_wide _ rfl (.tmp 44) (.tmp 46) 39 rfl w.heap.size 90 i0 (.agg #[.string ⟨#[]⟩, .bool false, .string ⟨#[]⟩, .int .i64 0, .slice none 0 0]) 5 72 Tryz.underlying39 hi hz0 hz1 hz2 rfl (by decide) u3 L.length (L.flatMap celV) rfl (ho4.alloc _) ⟨W4.heap.size, 0, none⟩ 1 1 [.string X.1, .bool X.2.1.has, .string X.2.1.text, .int .i64 X.2.1.sum, .slice A nl cl] rfl rfl (cells_at W4 [.string X.1, .bool X.2.1.has, .string X.2.1.text, .int .i64 X.2.1.sum, .slice A nl cl] _) (by rw [← HE.out]; exact celV_one Y) HLE.out.1 HLE.out.2 (by simp; omega) ?_; intro v5 w5 hO5 hg5 _))
     have hb5 := grown_own (hb4.alloc hb4s _) hg5 (by simp; omega) (ho4.alloc _)
     have hrg5 := (hrg4.alloc _).kept hg5 HNE.out.2 HNE.out.1
     have hLs5 : ∀ y ∈ L ++ [Y], LstOk w5 w.heap.size y := fun y hy => by
      rcases List.mem_append.1 hy with hy | hy
      ·exact ((HLS4.out y hy).below (bel1 _ _)).kept (ho4.alloc _) hg5
      ·rw [List.mem_singleton.1 hy]
       exact (HYL.out.below (bel1 _ _)).kept (ho4.alloc _) hg5
     have HG5 := Lib.hid (HG3.out Y HY1.out.1 HY1.out.2.1 HY1.out.2.2)
     have hO6 : w5.ownsRow w.heap.size 90 5 v5 (L ++ [Y]).length ((L ++ [Y]).flatMap celV) := by
      rw [List.length_append, List.flatMap_append, List.flatMap_cons, List.flatMap_nil, List.append_nil, HE.out]
      exact hO5
     go_roundw
     case rel => exact ⟨ks ++ [x], L ++ [Y], _, cnt1, hrg5, hO6, hLs5, HG5, hb5⟩
     case measure => rw [hrg5.left_eq, HLSI.out.2]; exact HLT.out
end Go.Proofs.YtlpkpfpmcppciaaGreatDoor
end

section
namespace Go.Proofs.YtlpkpfpmcppciaaGreatDoor
set_option linter.unusedSimpArgs false
set_option linter.unusedVariables false
open Go.RowKit Go.Maps
def doneSto (f : Sto) (x : Wr) : Sto := if wright x = 0 then f.do x else f
/-- What Do leaves. -/
def DoPost (w w' : World) (B s m n : Nat) (fp : FP) (x : Wr) : Prop := ∃ fp' : FP, SR w' B s m (n + 1) fp' ∧ fp'.sto = doneSto fp.sto x ∧ Moves (SF s m fp) (SF s m fp') w w'
theorem SR.more {w : World} {B s m n n' : Nat} {fp : FP} (h : SR w B s m n fp) (hn : n ≤ n') : SR w B s m n' fp :=
 ⟨h.root, h.pm.mono hn, fun k p x e => by obtain ⟨a, b, c, d⟩ := h.cel k p x e; exact ⟨a, b, c, Nat.le_trans d hn⟩, h.lo, h.dis, h.sl⟩
theorem DoPost.no {w w' : World} {B s m n : Nat} {fp : FP} {x : Wr} (h : SR w B s m n fp) (hb : Below w.heap.size w w') (hr : wright x ≠ 0) : DoPost w w' B s m n fp x :=
 ⟨fp, (h.below hb).more (Nat.le_succ n), by unfold doneSto; rw [if_neg hr], .of_below hb⟩
theorem bl_at {fp : FP} {k : ByteArray} {p : Nat} {X : CelX} (h : fp k = some (p, X)) (i : Nat) : Bl fp k i ↔ i = p ∨ X.lv.ownBlock = some i := by
 constructor
 ·rintro ⟨p', X', e, hh⟩
  rw [h] at e
  injection e with e
  injection e with e1 e2
  subst e1 e2
  exact hh
 ·exact fun hh => ⟨p, X, h, hh⟩
section
variable {w w5 wz : World} {B s m n p : Nat} {fp fp1 : FP} {k : ByteArray} {X : CelX} {x : Wr}
theorem DoPost.close (h5 : SR w5 B s m (n + 1) fp1) (hfp : fp1 = fp.set k (some (p, X))) (hX : X.2.1 = (fp.sto k).getD Cel.zero) (hm5 : Moves (SF s m fp) (SF s m fp1) w w5) (ht : Turned (fun j => j = p ∨ X.lv.ownBlock = some j) w5 wz)
  (Y : CelX) (hY : CelAt wz B p Y) (hYk : Y.1 = k) (hYp : Y.lv.ownBlock ≠ some p) (hYn : Y.2.1.list.length ≤ n + 1) (hYb : ∀ j, Y.lv.ownBlock = some j → X.lv.ownBlock = some j ∨ w5.heap.size ≤ j) (hr : wright x = 0) (hk : x.2.2.2.1 = k) (h2 : x.2.2.1 ≠ 2) (hst : Y.2.1 = X.2.1.step x) : DoPost w wz B s m n fp x := by
 have hat : fp1 k = some (p, X) := by rw [hfp, FP.set_same]
 have hpl : (fp1.set k (some (p, Y))).pl = fp1.pl := by
  funext j
  simp only [FP.pl, FP.set]
  split
  ·rename_i e
   rw [e, hat]
   rfl
  ·rfl
 have hq : ∀ p' x', some (p, Y) = some (p', x') → ∀ i, i = p' ∨ x'.lv.ownBlock = some i → Bl fp1 k i ∨ w5.heap.size ≤ i := by
  intro p' x' e i hi
  injection e with e
  injection e with e1 e2
  subst e1 e2
  rcases hi with hi | hi
  ·exact .inl ((bl_at hat i).2 (.inl hi))
  ·rcases hYb i hi with hb | hb
   ·exact .inl ((bl_at hat i).2 (.inr hb))
   ·exact .inr hb
 have ht' : Turned (fun i => i = m ∨ Bl fp1 k i) w5 wz := ht.mono fun i hi => .inr ((bl_at hat i).2 hi)
 have hmn : m ≠ p ∧ X.lv.ownBlock ≠ some m := ⟨fun e => (h5.lo k p ((bl_at hat p).2 (.inl rfl))).2.2.2 e.symm, fun e => (h5.lo k m ((bl_at hat m).2 (.inr e))).2.2.2 rfl⟩
 refine ⟨fp1.set k (some (p, Y)), h5.set ht' _ (Nat.le_refl _) ?_ ?_, ?_, hm5.trans (SR.moves ht' _ hq)⟩
 ·rw [hpl]
  exact h5.pm.at (ht.block m h5.sl.2.2.2.1 (fun e => by rcases e with e | e; exact hmn.1 e; exact hmn.2 e))
 ·intro p' x' e
  have hq' := hq p' x' e
  injection e with e
  injection e with e1 e2
  subst e1 e2
  exact ⟨hY, hYk, hYp, hYn, hq'⟩
 ·rw [FP.sto_set, hfp, FP.sto_set]
  unfold doneSto Sto.do
  rw [if_pos hr, hk, if_neg h2]
  funext j
  simp only [Sto.put, Option.map_some]
  split
  ·rw [hst, hX]
  ·rfl
theorem DoPost.gone (h5 : SR w5 B s m (n + 1) fp1) (hfp : fp1 = fp.set k (some (p, X))) (hm5 : Moves (SF s m fp) (SF s m fp1) w w5) (ht : Turned (fun j => j = m) w5 wz) (hpm : PM wz m (n + 1) (setP fp1.pl k none))
  (hr : wright x = 0) (hk : x.2.2.2.1 = k) (h2 : x.2.2.1 = 2) : DoPost w wz B s m n fp x := by
 have ht' : Turned (fun i => i = m ∨ Bl fp1 k i) w5 wz := ht.mono fun i hi => .inl hi
 refine ⟨fp1.set k none, h5.set ht' _ (Nat.le_refl _) ?_ (fun p' x' e => by cases e), ?_, hm5.trans (SR.moves ht' _ (fun p' x' e => by cases e))⟩
 ·rw [FP.pl_set]
  exact hpm
 ·rw [FP.sto_set, hfp, FP.sto_set]
  unfold doneSto Sto.do
  rw [if_pos hr, hk, if_pos h2]
  funext j
  simp only [Sto.put, Option.map_none]
  split <;> rfl
/-- The cell is there: found, or new. -/
structure Here (w w5 : World) (B s m n gb : Nat) (fp : FP) (k : ByteArray) (x : Wr) (p : Nat) (X : CelX) (fp1 : FP) : Prop where
 sr : SR w5 B s m (n + 1) fp1
 is : fp1 = fp.set k (some (p, X))
 cell : X.2.1 = (fp.sto k).getD Cel.zero
 len : X.2.1.list.length ≤ n
 moves : Moves (SF s m fp) (SF s m fp1) w w5
 wr : RC w5 gb (wrCells x)
 apart : ¬ SF s m fp1 gb
theorem Here.at {gb : Nat} (h : Here w w5 B s m n gb fp k x p X fp1) : fp1 k = some (p, X) := by rw [h.is, FP.set_same]
theorem Here.cel {gb : Nat} (h : Here w w5 B s m n gb fp k x p X fp1) : CelAt w5 B p X ∧ X.1 = k ∧ X.lv.ownBlock ≠ some p := by
 obtain ⟨a, b, c, _⟩ := h.sr.cel k p X h.at
 exact ⟨a, b, c⟩
theorem Here.found {gb : Nat} (h : SR w5 B s m n fp) (hf : fp k = some (p, X)) (hm : Moves (SF s m fp) (SF s m fp) w w5) (hw : RC w5 gb (wrCells x)) (ha : ¬ SF s m fp gb) : Here w w5 B s m n gb fp k x p X fp := by
 have he : fp = fp.set k (some (p, X)) := by
  funext j
  simp only [FP.set]
  split
  ·rename_i e; rw [e, hf]
  ·rfl
 exact ⟨h.more (Nat.le_succ n), he, by unfold FP.sto; rw [hf]; rfl, (h.cel k p X hf).2.2.2, hm, hw, ha⟩
/-- The new cell. -/
def newX (k : ByteArray) : CelX := (k, Cel.zero, none, 0, 0)
theorem Here.made {w3 w4 : World} {gb : Nat} (h3 : SR w3 B s m n fp) (hf : fp k = none) (h34 : Below w3.heap.size w3 w4) (hp : p = w3.heap.size) (hpw : RC w4 p (celV (newX k))) (hpm : PM wz m (n + 1) (setP fp.pl k (some p))) (ht : Turned (fun i => i = m) w4 wz)
  (hm : Moves (SF s m fp) (SF s m fp) w w3) (hw : RC wz gb (wrCells x)) (hgb : gb < w3.heap.size) (ha : ¬ SF s m fp gb) : Here w wz B s m n gb fp k x p (newX k) (fp.set k (some (p, newX k))) := by
 have hb34 : Turned (fun i => i = m ∨ Bl fp k i) w3 wz := (Turned.of_below h34).trans (ht.mono fun i hi => .inl hi)
 have hpm4 : p ≠ m := by have := h3.sl; omega
 have hpwz : RC wz p (celV (newX k)) := hpw.turned ht hpm4
 have hq : ∀ p' x', some (p, newX k) = some (p', x') → ∀ i, i = p' ∨ x'.lv.ownBlock = some i → Bl fp k i ∨ w3.heap.size ≤ i := by
  intro p' x' e i hi
  injection e with e
  injection e with e1 e2
  subst e1 e2
  rcases hi with hi | hi
  ·exact .inr (by omega)
  ·cases hi
 refine ⟨h3.set hb34 _ (Nat.le_succ n) (by rw [FP.pl_set]; exact hpm) ?_, rfl, by unfold FP.sto; rw [hf]; rfl, Nat.zero_le _, hm.trans (SR.moves hb34 _ hq), hw, ?_⟩
 ·intro p' x' e
  have hq' := hq p' x' e
  injection e with e
  injection e with e1 e2
  subst e1 e2
  exact ⟨⟨hpwz, .zero _ _ _⟩, rfl, (by intro e; cases e), Nat.zero_le _, hq'⟩
 ·intro hi
  rcases hi with hi | hi | ⟨j, hi⟩
  ·exact ha (.inl hi)
  ·exact ha (.inr (.inl hi))
  ·rcases SR.bl_set hi with ⟨rfl, p', x', e, hh⟩ | ⟨hj, hb⟩
   ·injection e with e
    injection e with e1 e2
    subst e1 e2
    rcases hh with hh | hh
    ·omega
    ·cases hh
   ·exact ha (.inr (.inr ⟨j, hb⟩))
end
theorem wright_kind {x : Wr} (h : wright x = 0) : x.2.2.1 = 1 ∨ x.2.2.1 = 2 ∨ x.2.2.1 = 3 ∨ (x.2.2.1 = 4 ∧ 0 ≤ x.2.2.2.2.2 ∧ x.2.2.2.2.2 ≤ 1000) := by
 unfold wright at h
 by_cases h1 : x.2.2.1 < 1 ∨ 4 < x.2.2.1
 ·rw [if_pos h1] at h; cases h
 rw [if_neg h1] at h
 by_cases h2 : x.2.2.1 = 4
 ·refine .inr (.inr (.inr ⟨h2, ?_⟩))
  by_cases h3 : idRight (x.1, x.2.1) = false
  ·rw [if_pos h3] at h; cases h
  rw [if_neg h3] at h
  by_cases h4 : 40 < x.2.2.2.1.size ∨ 300 < x.2.2.2.2.1.size
  ·rw [if_pos h4] at h; cases h
  rw [if_neg h4] at h
  by_cases h5 : (x.2.2.1 ≠ 1 ∧ x.2.2.1 ≠ 4 ∧ x.2.2.2.2.1.size ≠ 0) ∨ (x.2.2.1 ≠ 3 ∧ x.2.2.1 ≠ 4 ∧ x.2.2.2.2.2 ≠ 0)
  ·rw [if_pos h5] at h; cases h
  rw [if_neg h5] at h
  by_cases h6 : x.2.2.1 = 3 ∧ (x.2.2.2.2.2 < -1125899906842624 ∨ 1125899906842624 < x.2.2.2.2.2) ∨ x.2.2.1 = 4 ∧ (x.2.2.2.2.2 < 0 ∨ 1000 < x.2.2.2.2.2)
  ·rw [if_pos h6] at h; cases h
  omega
 ·omega
end Go.Proofs.YtlpkpfpmcppciaaGreatDoor
end

section
namespace Go.Proofs.YtlpkpfpmcppciaaGreatDoor
set_option linter.unusedSimpArgs false
set_option linter.unusedVariables false
open Go.RowKit Go.Lib
theorem strsV_one (l : List ByteArray) : ∀ v ∈ strsV l, v.oneCell' = true := by
 intro v hv
 obtain ⟨x, _, rfl⟩ := List.mem_map.1 hv
 rfl
theorem insAt_len (l : List ByteArray) (i : Nat) (t : ByteArray) : (insAt l i t).length = l.length + 1 := by
 simp only [insAt, List.length_append, List.length_cons, List.length_take, List.length_drop]
 omega
theorem strsV_len (l : List ByteArray) : (strsV l).length = l.length := by simp [strsV]
theorem strsV_ins (l : List ByteArray) (i : Nat) (t : ByteArray) : strsV (insAt l i t) = (strsV l).take i ++ .string t :: (strsV l).drop i := by simp [strsV, insAt, List.map_take, List.map_drop]
/-- What an insertion leaves. -/
structure Insd (w w' : World) (B : Nat) (v v' : Value) (l : List ByteArray) (i : Nat) (t : ByteArray) : Prop where
 own : w'.ownsRow B 9 1 v' (l.length + 1) (strsV (insAt l i t))
 turn : Turned (fun j => v.ownBlock = some j) w w'
 block : ∀ g, v'.ownBlock = some g → v.ownBlock = some g ∨ w.heap.size ≤ g
set_option maxHeartbeats 1000000 in
set_option maxRecDepth 100000 in
theorem insert_any {w : World} {B : Nat} {A : Option Addr} {n c : Nat} {l : List ByteArray} (ho : w.ownsRow B 9 1 (.slice A n c) l.length (strsV l)) (i : Nat) (hi : i ≤ l.length) (t : ByteArray) (vb : Nat)
  (hl : (l.length + 1) * 16 ≤ 140737488355328) (hB : B ≤ w.heap.size) (hv : w.heap[vb]? = some (.cells #[.string t] 9 (0, 0))) (hne : (Value.slice A n c).ownBlock ≠ some vb) :
  Calls Tryz.prog 35 #[.slice A n c, .int .i64 (i : Int), .slice (some ⟨vb, 0, none⟩) 1 1] w fun e w' => ∃ A' n' c', e = .returned (.slice A' n' c') ∧ Insd w w' B (.slice A n c) (.slice A' n' c') l i t := by
 have hvs : ∀ j v, [Value.string t][j]? = some v → w.cell? ⟨vb, 0 + j, none⟩ = some v := by
  intro j v hj
  cases j with
  | zero =>
   simp at hj
   subst hj
   simp [World.cell?, hv]
  | succ j => simp at hj
 have h1v : ∀ v ∈ [Value.string t], v.oneCell' = true := by intro v hv; simp at hv; subst hv; rfl
 have hnew : ∀ (x : Nat) (A' : Option Addr) (n' c' : Nat), A' = some ⟨x, 0, none⟩ → w.heap.size ≤ x → ∀ g, (Value.slice A' n' c').ownBlock = some g → (Value.slice A n c).ownBlock = some g ∨ w.heap.size ≤ g := by
  rintro x A' n' c' rfl hx g hg
  injection hg with hg
  simp only at hg
  exact .inr (by omega)
 have hfin : ∀ (w' : World) (cur : Array Value) (x cap : Nat), w'.heap[x]? = some (.cells cur 9 (0, 0)) → B ≤ x → l.length + 1 ≤ cap → cap ≤ maxLen → cur.size = cap → cur.toList.take (l.length + 1) = strsV (insAt l i t) → w'.ownsRow B 9 1 (.slice (some ⟨x, 0, none⟩) (l.length + 1) cap) (l.length + 1) (strsV (insAt l i t)) := by
  intro w' cur x cap h1 h2 h3 h4 h5 h6
  exact ⟨by rw [strsV_len, insAt_len, Nat.mul_one], .inr ⟨x, cap, cur, rfl, h2, h1, h3, h4, by rw [Nat.mul_one]; exact h5, by rw [Nat.mul_one]; exact h6⟩⟩
 have hm63 : l.length + 1 ≤ maxLen := by unfold maxLen; omega
 have hgrow0 : ∀ (base : Option Addr) (cc : Nat), base = A → n = l.length → l.length ≤ cc → cc < l.length + 1 → i = l.length → (∀ a, base = some a → ∀ j v, (strsV l)[j]? = some v → w.cell? (a.add j) = some v) → (base = none → l.length = 0) →
   Calls Tryz.prog 35 #[.slice base l.length cc, .int .i64 (i : Int), .slice (some ⟨vb, 0, none⟩) 1 1] w fun e w' => ∃ A' n' c', e = .returned (.slice A' n' c') ∧ Insd w w' B (.slice A n c) (.slice A' n' c') l i t := by
  intro base c' hb hn hc hroom hi' hcs hnil
  have h := Tryz.slices_Insert_string_end_grow base l.length c' vb 0 1 1 (strsV l) [.string t] w (by omega) hc hroom hl (strsV_len l) rfl hnil hcs hvs h1v
  subst hi'
  refine h.mono ?_
  rintro e w' ⟨rfl, rfl⟩
  have hge := grownCap_ge w (l.length + 1) c' 9
  have hle := grownCap_le_maxLen w (l.length + 1) c' 9 hm63
  rw [show Tryz.laysNm222_ren.t 9 = 9 from rfl]
  obtain ⟨K, hK⟩ : ∃ K, K = grownCap w (l.length + 1) c' 9 := ⟨_, rfl⟩
  rw [← hK] at hge hle ⊢
  obtain ⟨cur, hc0⟩ : ∃ x : Array Value, x = (strsV l ++ [Value.string t]).toArray ++ Builtin.zeroCells (Value.string ⟨#[]⟩).cells (K - (l.length + 1)) := ⟨_, rfl⟩
  rw [← hc0]
  have hh0 : (w.drew.alloc (.cells cur 9)).heap[w.heap.size]? = some (.cells cur 9 (0, 0)) := heap_alloc_new w.drew _
  refine ⟨_, _, _, rfl, ⟨hfin _ cur w.heap.size K hh0 hB hge hle ?_ ?_, .of_below ((Below.refl _ _).drew.alloc (Nat.le_refl _) _), hnew _ _ _ _ rfl (Nat.le_refl _)⟩⟩
  ·rw [hc0]
   simp only [Array.size_append, List.size_toArray, List.length_append, strsV_len, List.length_cons, List.length_nil, size_zeroCells, Value.cells]
   simp
   omega
  ·rw [hc0, strsV_ins, Array.toList_append, List.take_append_of_le_length (by simp [strsV_len])]
   rw [List.take_of_length_le (by simp [strsV_len])]
   rw [List.take_of_length_le (by rw [strsV_len]; exact Nat.le_refl _), List.drop_eq_nil_of_le (by rw [strsV_len]; exact Nat.le_refl _)]
 rcases ho.2 with ⟨e, h0⟩ | ⟨g, cap, cur, e, hbg, hg, hnc, hcm, hcs, htake⟩
 ·injection e with e1 e2 e3
  subst e1 e2 e3
  have hl0 : l = [] := List.eq_nil_of_length_eq_zero h0
  subst hl0
  exact hgrow0 none 0 rfl rfl (Nat.le_refl _) (Nat.lt_succ_self _) (by simp at hi; exact hi) (by intro a ha; cases ha) (fun _ => rfl)
 ·injection e with e1 e2 e3
  subst e1 e2 e3
  rw [Nat.mul_one] at hcs htake
  have hgv : vb ≠ g := fun e => hne (by rw [e]; rfl)
  have hgl : g < w.heap.size := (Array.getElem?_eq_some_iff.1 hg).1
  have hcell : ∀ j v, (strsV l)[j]? = some v → w.cell? ⟨g, 0 + j, none⟩ = some v := by
   intro j v hj
   rw [Nat.zero_add]
   have := ho.cellAt j (by have := (List.getElem?_eq_some_iff.1 hj).1; rw [strsV_len] at this; omega)
   rw [this, hj]
  have hsome : ∀ j, j < c → (w.cell? ⟨g, j, none⟩).isSome = true := by
   intro j hj
   rw [cell_of_row w g j cur _ (0, 0) hg]
   simp [hcs, hj]
  have hfz : ∀ j, w.frozen? ⟨g, j, none⟩ = false := fun j => frozen_of_row w g j cur _ hg
  by_cases hroom : l.length + 1 ≤ c
  ·by_cases hil : i = l.length
   ·have h := Tryz.slices_Insert_string_end_room g 0 l.length c vb 0 1 1 [.string t] w (by omega) hroom (by unfold maxLen at hcm; omega) rfl (fun j hj => hsome _ (by omega)) (fun j hj => hfz _) hvs h1v
    subst hil
    refine h.mono ?_
    rintro e w' ⟨rfl, rfl⟩
    obtain ⟨cur', k1, k2, k3⟩ := heap_setCells [.string t] (0 + l.length) w cur hg (by simp; omega)
    refine ⟨_, _, _, rfl, ⟨?_, .setCells w g _ _ rfl, fun g' hg' => .inl hg'⟩⟩
    refine hfin _ cur' g c k1 hbg hroom hcm (by rw [k2, hcs]) ?_
    rw [k3, strsV_ins]
    simp only [Nat.zero_add, List.length_cons, List.length_nil]
    rw [htake, List.take_append_of_le_length (by simp [strsV_len]), List.take_of_length_le (by simp [strsV_len])]
    rw [List.take_of_length_le (by rw [strsV_len]; exact Nat.le_refl _), List.drop_eq_nil_of_le (by rw [strsV_len]; exact Nat.le_refl _)]
   ·have hil' : i < l.length := by omega
    have h := Tryz.slices_Insert_string_shift g 0 l.length c i vb 0 1 1 (strsV l) [.string t] w hil' (by omega) hroom (by unfold maxLen at hcm; omega) hgv (strsV_len l) rfl hcell (fun j hj => hsome _ (by omega)) (fun j hj => hfz _) hvs (strsV_one l) h1v 9 9 1 cur.size (by simp [World.shape?, hv]) (by simp [World.shape?, hg]) (by omega) (by simp [World.frozen?, hv]) (by simp [World.frozen?, hv])
    refine h.mono ?_
    rintro e w' ⟨rfl, rfl⟩
    obtain ⟨cur1, k1, k2, k3⟩ := heap_setCells ((strsV l).drop i) (0 + (i + 1)) w.drew cur hg (by rw [List.length_drop, strsV_len]; omega)
    obtain ⟨cur2, j1, j2, j3⟩ := heap_setCells [.string t] (0 + i) _ cur1 k1 (by simp; omega)
    have T1 : Turned (fun j => (Value.slice (some ⟨g, 0, none⟩) l.length c).ownBlock = some j) w w.drew := .of_below (Below.refl _ _).drew
    refine ⟨_, _, _, rfl, ⟨?_, (T1.trans (.setCells _ g _ _ rfl)).trans (.setCells _ g _ _ rfl), fun g' hg' => .inl hg'⟩⟩
    refine hfin _ cur2 g c j1 hbg hroom hcm (by rw [j2, k2, hcs]) ?_
    rw [j3, k3, strsV_ins]
    simp only [Nat.zero_add, List.length_cons, List.length_nil]
    have hs := lst_shift cur.toList (strsV l) i (.string t) (by rw [strsV_len]; exact htake) (by rw [strsV_len]; exact hi) (by rw [strsV_len]; have := @Array.length_toList _ cur; omega) rfl
    rw [strsV_len] at hs
    exact hs
  ·by_cases hil : i = l.length
   ·exact hgrow0 (some ⟨g, 0, none⟩) c rfl rfl hnc (by omega) hil (by
     intro a ha j v hj
     injection ha with ha
     subst ha
     rw [show (⟨g, 0, none⟩ : Addr).add j = ⟨g, 0 + j, none⟩ from by unfold Addr.add; split <;> simp_all]
     exact hcell j v hj) (by intro h; cases h)
   ·have hil' : i < l.length := by omega
    have h := Tryz.slices_Insert_string_grow g 0 l.length c i vb 0 1 1 (strsV l) [.string t] w hil' (by omega) hnc (by omega) hl (strsV_len l) rfl hcell hvs (strsV_one l) h1v
    refine h.mono ?_
    rintro e w' ⟨rfl, rfl⟩
    have hge := grownCap_ge w (l.length + 1) c 9
    have hle := grownCap_le_maxLen w (l.length + 1) c 9 hm63
    rw [show Tryz.laysNm222_ren.t 9 = 9 from rfl]
    obtain ⟨K, hK⟩ : ∃ K, K = grownCap w (l.length + 1) c 9 := ⟨_, rfl⟩
    rw [← hK] at hge hle ⊢
    obtain ⟨cur0, hc0⟩ : ∃ x : Array Value, x = ((strsV l).take i).toArray ++ Builtin.zeroCells (Value.string ⟨#[]⟩).cells (l.length + 1 - i) ++ Builtin.zeroCells (Value.string ⟨#[]⟩).cells (K - (l.length + 1)) := ⟨_, rfl⟩
    rw [← hc0]
    have hs0 : cur0.size = K := by
     rw [hc0]
     simp only [Array.size_append, List.size_toArray, List.length_take, strsV_len, size_zeroCells, Value.cells]
     simp
     omega
    have ht0 : cur0.toList.take i = (strsV l).take i := by
     rw [hc0]
     simp only [Array.toList_append]
     rw [List.append_assoc, List.take_append_of_le_length (by simp [strsV_len]; omega), List.take_of_length_le (by simp [strsV_len]; omega)]
    have hh0 : ((w.alloc (.cells cur0 9)).drew).heap[w.heap.size]? = some (.cells cur0 9 (0, 0)) := heap_alloc_new w _
    obtain ⟨cur1, k1, k2, k3⟩ := heap_setCells [.string t] i _ cur0 hh0 (by simp; omega)
    have k1' : ((((w.alloc (.cells cur0 9)).drew).setCells w.heap.size i [.string t]).drew).heap[w.heap.size]? = some (.cells cur1 9 (0, 0)) := k1
    obtain ⟨cur2, j1, j2, j3⟩ := heap_setCells ((strsV l).drop i) (i + 1) _ cur1 k1' (by rw [List.length_drop, strsV_len]; omega)
    have T0 : Turned (fun j => w.heap.size ≤ j) w ((w.alloc (.cells cur0 9)).drew) := .of_below ((Below.refl _ _).alloc (Nat.le_refl _) _).drew
    have T1 := (T0.trans (.setCells _ w.heap.size i [.string t] (Nat.le_refl _)))
    have T2 := T1.trans (.of_below (w' := (((w.alloc (.cells cur0 9)).drew).setCells w.heap.size i [.string t]).drew) (Below.refl _ _).drew)
    have T3 := T2.trans (.setCells _ w.heap.size (i + 1) ((strsV l).drop i) (Nat.le_refl _))
    refine ⟨_, _, _, rfl, ⟨hfin _ cur2 w.heap.size K j1 hB hge hle (by rw [j2, k2, hs0]) ?_, ⟨T3.os, T3.tape, T3.output, T3.size, fun k hk _ => T3.block k hk (by omega)⟩, hnew _ _ _ _ rfl (Nat.le_refl _)⟩⟩
    have hl1 : (cur0.toList.take i).length = i := by rw [List.length_take, Array.length_toList]; omega
    have ht1 : cur1.toList.take (i + 1) = (strsV l).take i ++ [.string t] := by
     rw [k3, List.take_append_of_le_length (by simp; omega), List.take_of_length_le (by simp; omega), ht0]
    rw [j3, ht1, strsV_ins, List.length_drop, strsV_len]
    rw [List.take_append_of_le_length (by simp [strsV_len]; omega), List.take_of_length_le (by simp [strsV_len]; omega)]
    simp
end Go.Proofs.YtlpkpfpmcppciaaGreatDoor
end
