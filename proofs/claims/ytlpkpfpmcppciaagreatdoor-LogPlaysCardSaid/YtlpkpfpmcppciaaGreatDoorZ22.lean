/- The law LogPlays: whatever is done, both logs answer alike. Printed by gen_loglaw.py out of loglaw.src. -/
import Derived.Test.YtlpkpfpmcppciaaGreatDoorZ19
import Derived.Test.YtlpkpfpmcppciaaGreatDoorZ19b
import Derived.Test.YtlpkpfpmcppciaaGreatDoorZ20
import Derived.Test.YtlpkpfpmcppciaaGreatDoorZ21
section
namespace Go.Proofs.YtlpkpfpmcppciaaGreatDoor
set_option linter.unusedSimpArgs false
set_option linter.unusedVariables false
open Go.RowKit As
theorem yes_l {x : Int} : decide (x = x ∧ (-1 : Int) = -1) = true := by simp
theorem yes_p {x y : Int} : decide (x = x ∧ y = y) = true := by simp
set_option maxHeartbeats 1000000 in
set_option maxRecDepth 100000 in
theorem lsame_any {w : World} {B B' : Nat} {v v' : Value} {o : List (ByteArray × Cel)} (h : OutR w B v o) (h' : OutR w B' v' o) : Calls Tryz.prog 12 #[v, v'] w fun e w' => e = .returned (.bool true) ∧ Below w.heap.size w w' := by
 obtain ⟨L, h1, h2, h3⟩ := h
 obtain ⟨L', h1', h2', h3'⟩ := h'
 have hs := seqf_any h2 h2' h3 h3' (h1.trans h1'.symm)
 clear h1 h2 h3 h1' h2' h3'
 go_enter Tryz.func12, Tryz.ntmps12
 go_wp2_with (go_at_call 37; refine hs.mono ?_; rintro e w' ⟨rfl, hb⟩)
 go_ret
 exact ⟨rfl, hb⟩
theorem LB.start {w : World} {B : Nat} {c : LgC} {rep : Int} (h : LogAt w B c rep [] []) (hB : B ≤ w.heap.size) (t : TypeId) : LB (w.alloc (.cells #[.int .i64 rep, .slice none 0 0, .slice none 0 0] t)) B c.p w.heap.size rep [] [] [] [] (fun _ => False) := by
 have hb := below1 w (.cells #[.int .i64 rep, .slice none 0 0, .slice none 0 0] t)
 refine ⟨c, ⟨w.heap.size, .slice none 0 0, .slice none 0 0⟩, rfl, rfl, h.below hb, ⟨RC.new w [.int .i64 rep, .slice none 0 0, .slice none 0 0] t, hB, World.ownsRow_nil _ _ _ _, World.ownsRow_nil _ _ _ _, (fun e => by cases e), (fun e => by cases e)⟩, fun i hi hj => ?_, fun _ q => q.elim, Nat.le_trans hB hb.size⟩
 have h1 := (h.within i hi).2
 rcases hj with e | e | e
 ·simp only at e; omega
 ·cases e
 ·cases e
def lpV (p r cR : Nat) (AR : Option Addr) (V9 : List Ent) (gz : Option Addr × Nat) : Nat → Value
 | 0 => .pointer (some ⟨p, 0, none⟩)
 | 1 => .slice gz.1 V9.length gz.2
 | 2 => .pointer (some ⟨r, 0, none⟩)
 | 3 => .pointer (some ⟨r, 0, none⟩)
 | 4 => .pointer (some ⟨r, 1, none⟩)
 | 5 => .slice AR V9.length cR
 | 6 => .bool true
 | 7 => .bool false
 | _ => undef
set_option maxHeartbeats 8000000 in
set_option maxRecDepth 100000 in
theorem walkLogPlays (rep : Int) (a : DedArg) (w : World) (_ : (Lit.int .i64 rep).wf = true) (ha : Sl w w.heap.size 10 a.A a.n (a.l.flatMap dedCells) ∧ (∀ x ∈ a.l, DedOk w x) ∧ a.n ≤ maxLen) (hg : Handle w) :
  Calls Tryz.prog 4 #[.int .i64 rep, .slice a.A a.n a.c] w fun e w' => e = .returned (.bool true) ∧ Below w.heap.size w w' := by
 obtain ⟨A, ln, c, l⟩ := a
 obtain ⟨hs, hok, hlen⟩ := ha
 simp only at hs hok hlen ⊢
 have HSL := Lib.hid hs
 have HOK := Lib.hid hok
 have HLEN := Lib.hid hlen
 have HG := Lib.hid hg
 have HLL : Hid (l.length = ln) := Lib.hid (slk_len dedCells 10 (by omega) (fun _ => rfl) hs)
 clear hs hok hlen hg
 go_enter Tryz.func4, Tryz.ntmps4
 go_wp2
 go_loopw [5, 7, 27] (fun v5 _ v27 wr => ∃ (k : Nat) (z : Int), k ≤ ln ∧ v27 = .int .i64 (k : Int) ∧ v5 = .int .i64 z ∧ Below w.heap.size w wr) (fun _ _ i _ => ln - (intOf i).toNat)
 case atStart => exact ⟨0, 0, Nat.zero_le _, rfl, rfl, Below.refl _ _⟩
 case round =>
  obtain ⟨k, z, hk, rfl, rfl, hb⟩ := hrel
  by_cases hlt : k < ln
  ·obtain ⟨bb, o, ⟨kd, ⟨a1, a2, a3, a4, a5, a6⟩, b⟩, rfl, hbl, hx, hc⟩ := slk_at dedCells 10 (fun _ => rfl) HSL.out HLL.out hlt
   have c0 := (hb.cell (p := ⟨bb, _, none⟩) hbl).trans (hc 0 _ rfl)
   have c1 := (hb.cell (p := ⟨bb, _, none⟩) hbl).trans (hc 1 _ rfl)
   have c2 := (hb.cell (p := ⟨bb, _, none⟩) hbl).trans (hc 2 _ rfl)
   have c3 := (hb.cell (p := ⟨bb, _, none⟩) hbl).trans (hc 3 _ rfl)
   have c4 := (hb.cell (p := ⟨bb, _, none⟩) hbl).trans (hc 4 _ rfl)
   have c5 := (hb.cell (p := ⟨bb, _, none⟩) hbl).trans (hc 5 _ rfl)
   have c6 := (hb.cell (p := ⟨bb, _, none⟩) hbl).trans (hc 6 _ rfl)
   have c7 := (hb.cell (p := ⟨bb, _, none⟩) hbl).trans (hc 7 _ rfl)
   have c8 := (hb.cell (p := ⟨bb, _, none⟩) hbl).trans (hc 8 _ rfl)
   have c9 := (hb.cell (p := ⟨bb, _, none⟩) hbl).trans (hc 9 _ rfl)
   simp only [Nat.add_zero] at c0
   have hd := (HOK.out _ (List.mem_of_getElem? hx)).grow hb
   have bA := below1 wr (.cells #[.int .i64 kd, .int .i64 a1, .int .i64 a2, .int .i64 a3, .string a4, .string a5, .int .i64 a6, .slice b.A b.n b.c, .slice b.A' b.n' b.c', .slice b.A'' b.n'' b.c''] 51)
   have hGD : RC (wr.alloc (.cells #[.int .i64 kd, .int .i64 a1, .int .i64 a2, .int .i64 a3, .string a4, .string a5, .int .i64 a6, .slice b.A b.n b.c, .slice b.A' b.n' b.c', .slice b.A'' b.n'' b.c''] 51)) wr.heap.size (dedCells (kd, (a1, a2, a3, a4, a5, a6), b)) := RC.new wr (dedCells (kd, (a1, a2, a3, a4, a5, a6), b)) _
   have hdA := hd.grow bA
   have hbA := hb.trans (bA.mono hb.size)
   have W1 := Lib.hid (w_suc63 hlt HLEN.out)
   have HM1 : Hid (ln - (k + 1) < ln - k) := Lib.hid (by omega)
   have HK1 : Hid (k + 1 ≤ ln) := Lib.hid hlt
   obtain ⟨gd, hgd⟩ : ∃ g, g = wr.heap.size := ⟨_, rfl⟩
   rw [← hgd] at hGD
   clear hx hc hbl hd bA hb
   go_upto_region 5 with fail
   rw [← hgd]
   clear hgd c0 c1 c2 c3 c4 c5 c6 c7 c8 c9 hlt hk
   generalize wr.alloc (.cells #[.int .i64 kd, .int .i64 a1, .int .i64 a2, .int .i64 a3, .string a4, .string a5, .int .i64 a6, .slice b.A b.n b.c, .slice b.A' b.n' b.c', .slice b.A'' b.n'' b.c''] 51) = WA at *
   have g4 := (hGD 4 _ rfl).1
   have g5 := (hGD 5 _ rfl).1
   have g7 := (hGD 7 _ rfl).1
   have g8 := (hGD 8 _ rfl).1
   have g9 := (hGD 9 _ rfl).1
   simp only at g4 g5 g7 g8 g9
   have hbig := big_any b.A b.A' b.A'' b.n b.n' b.n'' b.c b.c' b.c'' b.l WA hdA.b.l hdA.b.nl
   obtain ⟨bg, hbg⟩ : ∃ bg, bigB b.n b.n' b.n'' b.l = bg := ⟨_, rfl⟩
   rw [hbg] at hbig
   have HBA := Lib.hid hbA
   have HGD := Lib.hid hGD
   clear hbg hdA hbA hGD
   obtain ⟨ww, hww⟩ : ∃ ww, IntKind.i64.wrap ((a4.size : Int) + (a5.size : Int)) = ww := ⟨_, rfl⟩
   obtain ⟨m1, m2⟩ := W1.out
   cases bg with
   | true =>
    go_wp2_with (first | (go_at_call 5; refine hbig.mono ?_; rintro e w5 ⟨rfl, hb5⟩; have HB5 := Lib.hid (HBA.out.trans (hb5.mono HBA.out.size)); clear hb5))
    go_ret
    exact ⟨rfl, HB5.out⟩
   | false =>
    by_cases h9 : 900 < ww
    ·have d9 : decide (900 < ww) = true := decide_eq_true h9
     clear h9
     go_wp2_with (first | (go_at_call 5; refine hbig.mono ?_; rintro e w5 ⟨rfl, hb5⟩; have HB5 := Lib.hid (HBA.out.trans (hb5.mono HBA.out.size)); have hGD5 := HGD.out.below hb5; have g4 := (hGD5 4 _ rfl).1; have g5 := (hGD5 5 _ rfl).1; simp only at g4 g5; clear hb5 hGD5))
     go_ret
     exact ⟨rfl, HB5.out⟩
    ·have d9 : decide (900 < ww) = false := decide_eq_false h9
     clear h9
     go_wp2_with (first | (go_at_call 5; refine hbig.mono ?_; rintro e w5 ⟨rfl, hb5⟩; have HB5 := Lib.hid (HBA.out.trans (hb5.mono HBA.out.size)); have hGD5 := HGD.out.below hb5; have g4 := (hGD5 4 _ rfl).1; have g5 := (hGD5 5 _ rfl).1; simp only at g4 g5; clear hb5 hGD5))
     go_roundw
     case rel => exact ⟨k + 1, _, HK1.out, by go_num, rfl, HB5.out⟩
     case measure => simpa [intOf] using HM1.out
  ·obtain rfl : ln = k := by omega
   have HB := Lib.hid hb
   clear hlt hk hb
   by_cases h7 : 700 < z
   ·have d7 : decide (700 < z) = true := decide_eq_true h7
    clear h7
    go_wp2
    go_ret
    exact ⟨rfl, HB.out⟩
   have d7 : decide (700 < z) = false := decide_eq_false h7
   clear h7
   by_cases hrep : 0 ≤ rep ∧ rep ≤ 200
   ·have hnew := pnewl_any rep wr hrep
    have e1 : decide (rep < 0) = false := decide_eq_false (by omega)
    have e2 : decide (200 < rep) = false := decide_eq_false (by omega)
    have HREP := Lib.hid hrep
    clear hrep
    go_upto_region 16 with (first | (go_at_call 15; refine hnew.mono ?_; rintro e w5 ⟨c, rfl, hl5, hb5⟩))
    have HB5 := Lib.hid (HB.out.trans (hb5.mono HB.out.size))
    have hLB := LB.start (c := c) ⟨hl5.rc, Nat.le_trans HB.out.size hl5.bp, own_less hl5.h HB.out.size, own_less hl5.l HB.out.size, hl5.nh, hl5.nl⟩ HB5.out.size 57
    obtain ⟨p, hp⟩ : ∃ p, p = c.p := ⟨_, rfl⟩
    rw [← hp] at hLB ⊢
    have hb6 := HB5.out.alloc HB5.out.size (.cells #[.int .i64 rep, .slice none 0 0, .slice none 0 0] 57)
    obtain ⟨r, hr⟩ : ∃ r, r = w5.heap.size := ⟨_, rfl⟩
    rw [← hr] at hLB
    have HLB := Lib.hid (And.intro hLB hb6)
    clear hnew e1 e2 hl5 hb5 hp hLB hb6 d7
    go_wp2
    rw [← hr]
    clear hr
    generalize w5.alloc (.cells #[.int .i64 rep, .slice none 0 0, .slice none 0 0] 57) = W6 at *
    go_loopw [94] (fun v94 wr => ∃ (k : Nat) (V : List Ent) (S L : List Wr), k ≤ ln ∧ v94 = .int .i64 (k : Int) ∧ LB wr w.heap.size p r rep V S V L (fun _ => False) ∧ Hid (LFit V L ∧ SortOf L S) ∧ Below w.heap.size w wr) (fun i _ => ln - (intOf i).toNat)
    case atStart => exact ⟨0, [], [], [], Nat.zero_le _, rfl, HLB.out.1, Lib.hid ⟨.nil, .nil⟩, HLB.out.2⟩
    case round =>
     obtain ⟨k2, V, S, L, hk, rfl, hT, HFS, hb⟩ := hrel
     clear HLB
     by_cases hlt : k2 < ln
     ·obtain ⟨bb, o, ⟨kd, ⟨a1, a2, a3, a4, a5, a6⟩, b⟩, rfl, hbl, hx, hc⟩ := slk_at dedCells 10 (fun _ => rfl) HSL.out HLL.out hlt
      have c0 := (hb.cell (p := ⟨bb, _, none⟩) hbl).trans (hc 0 _ rfl)
      have c1 := (hb.cell (p := ⟨bb, _, none⟩) hbl).trans (hc 1 _ rfl)
      have c2 := (hb.cell (p := ⟨bb, _, none⟩) hbl).trans (hc 2 _ rfl)
      have c3 := (hb.cell (p := ⟨bb, _, none⟩) hbl).trans (hc 3 _ rfl)
      have c4 := (hb.cell (p := ⟨bb, _, none⟩) hbl).trans (hc 4 _ rfl)
      have c5 := (hb.cell (p := ⟨bb, _, none⟩) hbl).trans (hc 5 _ rfl)
      have c6 := (hb.cell (p := ⟨bb, _, none⟩) hbl).trans (hc 6 _ rfl)
      have c7 := (hb.cell (p := ⟨bb, _, none⟩) hbl).trans (hc 7 _ rfl)
      have c8 := (hb.cell (p := ⟨bb, _, none⟩) hbl).trans (hc 8 _ rfl)
      have c9 := (hb.cell (p := ⟨bb, _, none⟩) hbl).trans (hc 9 _ rfl)
      simp only [Nat.add_zero] at c0
      have bA := below1 wr (.cells #[.int .i64 kd, .int .i64 a1, .int .i64 a2, .int .i64 a3, .string a4, .string a5, .int .i64 a6, .slice b.A b.n b.c, .slice b.A' b.n' b.c', .slice b.A'' b.n'' b.c''] 51)
      have hGD : RC (wr.alloc (.cells #[.int .i64 kd, .int .i64 a1, .int .i64 a2, .int .i64 a3, .string a4, .string a5, .int .i64 a6, .slice b.A b.n b.c, .slice b.A' b.n' b.c', .slice b.A'' b.n'' b.c''] 51)) wr.heap.size (dedCells (kd, (a1, a2, a3, a4, a5, a6), b)) := RC.new wr (dedCells (kd, (a1, a2, a3, a4, a5, a6), b)) _
      have HD0 := Lib.hid (HOK.out _ (List.mem_of_getElem? hx))
      have HDA := Lib.hid (((HOK.out _ (List.mem_of_getElem? hx)).grow hb).grow bA)
      have hbA := hb.trans (bA.mono hb.size)
      have hTA := (hT.guest bA (g := wr.heap.size) (Nat.le_refl _) (by simp)).less (G' := fun i => i = wr.heap.size) (fun i q => .inr q)
      have W1 := Lib.hid (w_suc63 hlt HLEN.out)
      have HM1 : Hid (ln - (k2 + 1) < ln - k2) := Lib.hid (by omega)
      have HK1 : Hid (k2 + 1 ≤ ln) := Lib.hid hlt
      have HYL : Hid (∀ V' : List Ent, (vright V').1 = 0 → V'.length ≤ 1000000) := Lib.hid (fun V' h => by have := vright_ok_len h; omega)
      obtain ⟨gd, hgd⟩ : ∃ g, g = wr.heap.size := ⟨_, rfl⟩
      rw [← hgd] at hGD hTA
      clear hx hc hbl bA hb hT
      go_upto_block 4 with fail
      rw [← hgd]
      clear hgd c0 c1 c2 c3 c4 c5 c6 c7 c8 c9
      generalize wr.alloc (.cells #[.int .i64 kd, .int .i64 a1, .int .i64 a2, .int .i64 a3, .string a4, .string a5, .int .i64 a6, .slice b.A b.n b.c, .slice b.A' b.n' b.c', .slice b.A'' b.n'' b.c''] 51) = WA at *
      have HTA := Lib.hid hTA
      have HGD := Lib.hid hGD
      have HBA := Lib.hid hbA
      clear hTA hGD hbA hlt hk
      go_cut [100] (fun _ wx => ∃ (V9 : List Ent) (S9 L9 : List Wr), LB wx w.heap.size p r rep V9 S9 V9 L9 (fun _ => False) ∧ Hid (LFit V9 L9 ∧ SortOf L9 S9) ∧ Below w.heap.size w wx)
      case first =>
       have g0 := (HGD.out 0 _ rfl).1
       simp only at g0
       by_cases hk0 : kd = 0
       ·subst hk0
        have g1 := (HGD.out 1 _ rfl).1
        have g2 := (HGD.out 2 _ rfl).1
        have g3 := (HGD.out 3 _ rfl).1
        have g4 := (HGD.out 4 _ rfl).1
        have g5 := (HGD.out 5 _ rfl).1
        have g6 := (HGD.out 6 _ rfl).1
        simp only at g1 g2 g3 g4 g5 g6
        obtain ⟨R1, hR1⟩ : ∃ R1, lloc rep V L (a1, a2, a3, a4, a5, a6) = R1 := ⟨_, rfl⟩
        obtain ⟨R2, hR2⟩ : ∃ R2, lloc rep V S (a1, a2, a3, a4, a5, a6) = R2 := ⟨_, rfl⟩
        have hpair := lloc_pair (rep := rep) HFS.out.2 HFS.out.1 (a1, a2, a3, a4, a5, a6)
        rw [hR1, hR2] at hpair
        obtain ⟨⟨V1, L1⟩, ⟨t1, r1⟩, ee⟩ := R1
        obtain ⟨⟨V2, S1⟩, ⟨t2, r2⟩, e2⟩ := R2
        simp only [Prod.mk.injEq] at hpair
        obtain ⟨⟨⟨rfl, rfl⟩, rfl⟩, rfl, q3, q4⟩ := hpair
        have HQ := Lib.hid (And.intro q3 q4)
        have hrl := lb_rlocal HTA.out HFS.out.1.vr HREP.out HFS.out.1.len (a1, a2, a3, a4, a5, a6) (HG.out.below HBA.out)
        rw [hR1] at hrl
        unfold wrV at hrl
        simp only at hrl
        have HR2 := Lib.hid hR2
        clear hR1 hR2 q3 q4
        go_upto_region 23 with (first | (go_at_call 16; refine hrl.mono ?_; rintro e w3 ⟨rfl, hT3, hb3, ht3⟩))
        have bI := below1 w3 (.cells #[.int .i64 t2, .int .i64 r2] 30)
        have hI : RC (w3.alloc (.cells #[.int .i64 t2, .int .i64 r2] 30)) w3.heap.size [.int .i64 t2, .int .i64 r2] := RC.new w3 [.int .i64 t2, .int .i64 r2] _
        have hT4 := hT3.guest bI (g := w3.heap.size) (Nat.le_refl _) (by simp)
        have hGD4 := (HGD.out.turned ht3 (fun q => q rfl)).below bI
        have hb4 := (HBA.out.trans hb3).trans (bI.mono (HBA.out.trans hb3).size)
        obtain ⟨g13, h13⟩ : ∃ g, g = w3.heap.size := ⟨_, rfl⟩
        rw [← h13] at hI hT4 ⊢
        clear g0 g1 g2 g3 g4 g5 g6 hrl hT3 hb3 ht3 bI h13
        generalize w3.alloc (.cells #[.int .i64 t2, .int .i64 r2] 30) = W4 at *
        have g1 := (hGD4 1 _ rfl).1
        have g2 := (hGD4 2 _ rfl).1
        have g3 := (hGD4 3 _ rfl).1
        have g4 := (hGD4 4 _ rfl).1
        have g5 := (hGD4 5 _ rfl).1
        have g6 := (hGD4 6 _ rfl).1
        simp only at g1 g2 g3 g4 g5 g6
        have hpl := lb_plocal hT4 HFS.out.1.vr HREP.out (by rw [HFS.out.2.len]; exact HFS.out.1.len) (a1, a2, a3, a4, a5, a6) (HG.out.below hb4)
        rw [HR2.out] at hpl
        unfold wrV at hpl
        simp only at hpl
        have HI := Lib.hid hI
        have HB4 := Lib.hid hb4
        clear hT4 hGD4 hb4 hI
        go_upto_region 24 with (first | (go_at_call 17; refine hpl.mono ?_; rintro e w5 ⟨rfl, hT5, hb5, ht5⟩))
        have bJ := below1 w5 (.cells #[.int .i64 t2, .int .i64 r2] 30)
        have hJ : RC (w5.alloc (.cells #[.int .i64 t2, .int .i64 r2] 30)) w5.heap.size [.int .i64 t2, .int .i64 r2] := RC.new w5 [.int .i64 t2, .int .i64 r2] _
        have hI6 := (HI.out.turned ht5 (fun q => q (.inr rfl))).below bJ
        have hT6 := (hT5.below bJ).less (G' := fun _ => False) (fun _ q => q.elim)
        have hb5' := HB4.out.trans hb5
        have hb6 := hb5'.trans (bJ.mono hb5'.size)
        obtain ⟨g15, h15⟩ : ∃ g, g = w5.heap.size := ⟨_, rfl⟩
        rw [← h15] at hJ ⊢
        clear g1 g2 g3 g4 g5 g6 hpl hT5 hb5 ht5 bJ h15 hb5'
        generalize w5.alloc (.cells #[.int .i64 t2, .int .i64 r2] 30) = W6 at *
        have hbr := bare_any (errV_is W6 e2) (HG.out.below hb6) e2
        rw [yes_l] at hbr
        have HX6 := Lib.hid (And.intro hT6 (And.intro hb6 (And.intro hI6 hJ)))
        clear hT6 hb6 hI6 hJ
        go_wp2_with (first | (go_at_call 8; refine hbr.mono ?_; rintro e w7 ⟨rfl, hb7⟩; have hI7 := HX6.out.2.2.1.below hb7; have hJ7 := HX6.out.2.2.2.below hb7; have i0 := (hI7 0 _ rfl).1; have i1 := (hI7 1 _ rfl).1; have j0 := (hJ7 0 _ rfl).1; have j1 := (hJ7 1 _ rfl).1; have HB7 := Lib.hid hb7; clear hI7 hJ7 hb7))
        go_meet
        exact ⟨_, S1, L1, HX6.out.1.below HB7.out, HQ, HX6.out.2.1.trans (HB7.out.mono HX6.out.2.1.size)⟩
       have e0 : (kd == 0) = false := beq_eq_false_iff_ne.2 hk0
       by_cases hk1 : kd = 1
       ·subst hk1
        have g7 := (HGD.out 7 _ rfl).1
        have g8 := (HGD.out 8 _ rfl).1
        have g9 := (HGD.out 9 _ rfl).1
        simp only at g7 g8 g9
        obtain ⟨R1, hR1⟩ : ∃ R1, lacc V L b.f b.h b.l = R1 := ⟨_, rfl⟩
        have hfit := lacc_fit (f := b.f) (h := b.h) (l := b.l) HFS.out.1
        rw [hR1] at hfit
        have hra := lb_raccept HTA.out HFS.out.1 b HDA.out.b HDA.out.f
        rw [hR1] at hra
        obtain ⟨⟨V1, L1⟩, m, ee, pl⟩ := R1
        unfold BatArg.v at hra
        simp only at hra hfit
        have HFIT := Lib.hid hfit
        have HR1 := Lib.hid hR1
        clear hR1 hfit
        go_upto_region 28 with (first | (go_at_call 18; refine hra.mono ?_; rintro e w3 ⟨rfl, hT3, hb3, ht3⟩))
        have bI := below1 w3 (.cells #[.int .i64 ee, .int .i64 pl] 44)
        have hI : RC (w3.alloc (.cells #[.int .i64 ee, .int .i64 pl] 44)) w3.heap.size [.int .i64 ee, .int .i64 pl] := RC.new w3 [.int .i64 ee, .int .i64 pl] _
        have hT4 := hT3.guest bI (g := w3.heap.size) (Nat.le_refl _) (by simp)
        have hGD4 := (HGD.out.turned ht3 (fun q => q rfl)).below bI
        have hb34 := HBA.out.trans hb3
        have hb4 := hb34.trans (bI.mono hb34.size)
        obtain ⟨g18, h18⟩ : ∃ g, g = w3.heap.size := ⟨_, rfl⟩
        rw [← h18] at hI hT4 ⊢
        clear g0 g7 g8 g9 hra hT3 hb3 ht3 bI h18 hb34
        generalize w3.alloc (.cells #[.int .i64 ee, .int .i64 pl] 44) = W4 at *
        have g7 := (hGD4 7 _ rfl).1
        have g8 := (hGD4 8 _ rfl).1
        have g9 := (hGD4 9 _ rfl).1
        simp only at g7 g8 g9
        have hd4 := HD0.out.grow hb4
        have hpa := lb_paccept hT4 HFS.out.2 HFS.out.1 b hd4.b hd4.f hd4.r (HG.out.below hb4)
        rw [HR1.out] at hpa
        unfold BatArg.v at hpa
        simp only at hpa
        have HI := Lib.hid hI
        have HB4 := Lib.hid hb4
        clear hT4 hGD4 hb4 hI hd4
        by_cases he : ee = 0
        ·subst he
         go_upto_region 29 with (first | (go_at_call 19; refine hpa.mono ?_; rintro e w5 ⟨v, rfl, hP⟩; have hpl0 := ErrIs.zero hP.er; obtain ⟨rfl, hpl1⟩ := hpl0))
         obtain ⟨S1, hT5, hs5⟩ := hP.ex
         have hI5 := HI.out.turned hP.t (fun q => q (.inr rfl))
         have hb5 := HB4.out.trans hP.b
         have hpd := placed_any hP.er (HG.out.below hb5) 0 pl
         rw [yes_p] at hpd
         have i0 := (hI5 0 _ rfl).1
         have i1 := (hI5 1 _ rfl).1
         have HX5 := Lib.hid (And.intro (hT5.less (G' := fun _ => False) (fun _ q => q.elim)) (And.intro hb5 hs5))
         clear g7 g8 g9 hpa hP hT5 hs5 hI5 hb5 hpl1
         go_wp2_with (first | (go_at_call 11; refine hpd.mono ?_; rintro e w7 ⟨rfl, hb7⟩; have HB7 := Lib.hid hb7; clear hb7))
         go_meet
         exact ⟨V1, S1, L1, HX5.out.1.below HB7.out, Lib.hid ⟨HFIT.out, HX5.out.2.2⟩, HX5.out.2.1.trans (HB7.out.mono HX5.out.2.1.size)⟩
        ·go_upto_region 29 with (first | (go_at_call 19; refine hpa.mono ?_; rintro e w5 ⟨v, rfl, hP⟩; obtain ⟨tt, uu, rfl⟩ := err_some (f := (ee, pl)) hP.er he))
         obtain ⟨S1, hT5, hs5⟩ := hP.ex
         have hI5 := HI.out.turned hP.t (fun q => q (.inr rfl))
         have hb5 := HB4.out.trans hP.b
         have hpd := placed_any hP.er (HG.out.below hb5) ee pl
         rw [yes_p] at hpd
         have i0 := (hI5 0 _ rfl).1
         have i1 := (hI5 1 _ rfl).1
         have HX5 := Lib.hid (And.intro (hT5.less (G' := fun _ => False) (fun _ q => q.elim)) (And.intro hb5 hs5))
         clear g7 g8 g9 hpa hP hT5 hs5 hI5 hb5 he
         go_wp2_with (first | (go_at_call 11; refine hpd.mono ?_; rintro e w7 ⟨rfl, hb7⟩; have HB7 := Lib.hid hb7; clear hb7))
         go_meet
         exact ⟨V1, S1, L1, HX5.out.1.below HB7.out, Lib.hid ⟨HFIT.out, HX5.out.2.2⟩, HX5.out.2.1.trans (HB7.out.mono HX5.out.2.1.size)⟩
       have e1 : (kd == 1) = false := beq_eq_false_iff_ne.2 hk1
       by_cases hk2 : kd = 2
       ·subst hk2
        have g7 := (HGD.out 7 _ rfl).1
        simp only at g7
        obtain ⟨R1, hR1⟩ : ∃ R1, lsince V S b.f = R1 := ⟨_, rfl⟩
        have hrs := lb_rsince HTA.out HFS.out.2 HFS.out.1 b.A b.n b.c b.f ⟨HDA.out.b.f, HDA.out.f.f⟩ HDA.out.b.nf
        rw [hR1] at hrs
        have HR1 := Lib.hid hR1
        obtain ⟨⟨F1, H1, D1⟩, ee⟩ := R1
        clear hR1
        go_upto_region 33 with (first | (go_at_call 20; refine hrs.mono ?_; rintro e w3 ⟨⟨xr, rfl, hxr, q1, q2, q3, hb3⟩⟩; obtain ⟨Ar, nr, cr, Ar', nr', cr', Ar'', nr'', cr'', fr, hr_, lr⟩ := xr; simp only [BatArg.v] at q1 q2 q3 ⊢))
        have bI := below1 w3 (.cells #[.slice Ar nr cr, .slice Ar' nr' cr', .slice Ar'' nr'' cr''] 26)
        have hI : RC (w3.alloc (.cells #[.slice Ar nr cr, .slice Ar' nr' cr', .slice Ar'' nr'' cr''] 26)) w3.heap.size [.slice Ar nr cr, .slice Ar' nr' cr', .slice Ar'' nr'' cr''] := RC.new w3 [.slice Ar nr cr, .slice Ar' nr' cr', .slice Ar'' nr'' cr''] _
        have hbA3 := hb3.trans (bI.mono hb3.size)
        have hT4 := HTA.out.below hbA3
        have hGD4 := HGD.out.below hbA3
        have hb4 := HBA.out.trans (hbA3.mono HBA.out.size)
        have hxr4 := hxr.grow bI
        obtain ⟨g21, h21⟩ : ∃ g, g = w3.heap.size := ⟨_, rfl⟩
        rw [← h21] at hI ⊢
        clear g0 g7 hrs hb3 bI h21 hbA3 hxr
        generalize w3.alloc (.cells #[.slice Ar nr cr, .slice Ar' nr' cr', .slice Ar'' nr'' cr''] 26) = W4 at *
        have g7 := (hGD4 7 _ rfl).1
        simp only at g7
        have hd4 := HD0.out.grow hb4
        have hps := lb_psince hT4 HFS.out.2 HFS.out.1 b.A b.n b.c b.f ⟨hd4.b.f, hd4.f.f⟩ hd4.b.nf (HG.out.below hb4)
        rw [HR1.out] at hps
        have HT4 := Lib.hid hT4
        have HI := Lib.hid hI
        have HB4 := Lib.hid hb4
        have HXR := Lib.hid hxr4
        have HQR := Lib.hid (And.intro q1 (And.intro q2 q3))
        clear hT4 hGD4 hb4 hI hd4 hxr4 q1 q2 q3
        go_upto_region 34 with (first | (go_at_call 21; refine hps.mono ?_; rintro e w5 ⟨⟨xp, rfl, hxp, q1, q2, q3, hb5⟩⟩; obtain ⟨Ap, np, cp, Ap', np', cp', Ap'', np'', cp'', fp, hp_, lp⟩ := xp; simp only [BatArg.v] at q1 q2 q3 ⊢))
        have bJ := below1 w5 (.cells #[.slice Ap np cp, .slice Ap' np' cp', .slice Ap'' np'' cp''] 26)
        have hJ : RC (w5.alloc (.cells #[.slice Ap np cp, .slice Ap' np' cp', .slice Ap'' np'' cp''] 26)) w5.heap.size [.slice Ap np cp, .slice Ap' np' cp', .slice Ap'' np'' cp''] := RC.new w5 [.slice Ap np cp, .slice Ap' np' cp', .slice Ap'' np'' cp''] _
        have hb56 := hb5.trans (bJ.mono hb5.size)
        have hI6 := HI.out.below hb56
        have hT6 := (HT4.out.below hb56).less (G' := fun _ => False) (fun _ q => q.elim)
        have hb6 := HB4.out.trans (hb56.mono HB4.out.size)
        have hxr6 := HXR.out.grow hb56
        have hxp6 := hxp.grow bJ
        obtain ⟨g23, h23⟩ : ∃ g, g = w5.heap.size := ⟨_, rfl⟩
        rw [← h23] at hJ ⊢
        clear g7 hps hb5 bJ h23 hb56 hxp
        generalize w5.alloc (.cells #[.slice Ap np cp, .slice Ap' np' cp', .slice Ap'' np'' cp''] 26) = W6 at *
        have hbr := bare_any (errV_is W6 ee) (HG.out.below hb6) ee
        rw [yes_l] at hbr
        have HX6 := Lib.hid (And.intro hT6 (And.intro hb6 (And.intro hI6 (And.intro hJ (And.intro hxr6 hxp6)))))
        have HSM : Hid (batSame ⟨Ar, nr, cr, Ar', nr', cr', Ar'', nr'', cr'', fr, hr_, lr⟩ ⟨Ap, np, cp, Ap', np', cp', Ap'', np'', cp'', fp, hp_, lp⟩ = true) := Lib.hid (by obtain ⟨p1, p2, p3⟩ := HQR.out; unfold batSame; rw [p1, p2, p3, q1, q2, q3, decide_eq_true rfl, decide_eq_true rfl, decide_eq_true rfl]; rfl)
        clear hT6 hb6 hI6 hJ hxr6 hxp6 q1 q2 q3
        go_wp2_with (first
         | (go_at_call 8; refine hbr.mono ?_; rintro e w7 ⟨rfl, hb7⟩; have hI7 := HX6.out.2.2.1.below hb7; have hJ7 := HX6.out.2.2.2.1.below hb7; have i0 := (hI7 0 _ rfl).1; have i1 := (hI7 1 _ rfl).1; have i2 := (hI7 2 _ rfl).1; have j0 := (hJ7 0 _ rfl).1; have j1 := (hJ7 1 _ rfl).1; have j2 := (hJ7 2 _ rfl).1; have HB7 := Lib.hid hb7; have hsm := rsame_any ⟨Ar, nr, cr, Ar', nr', cr', Ar'', nr'', cr'', fr, hr_, lr⟩ ⟨Ap, np, cp, Ap', np', cp', Ap'', np'', cp'', fp, hp_, lp⟩ w7 (HX6.out.2.2.2.2.1.grow hb7) (HX6.out.2.2.2.2.2.grow hb7); rw [HSM.out] at hsm; simp only [BatArg.v] at hsm; clear hI7 hJ7 hb7)
         | (go_at_call 22; refine hsm.mono ?_; rintro e w8 ⟨rfl, hb8⟩; have HB8 := Lib.hid (HB7.out.trans (hb8.mono HB7.out.size)); clear hb8))
        go_meet
        exact ⟨V, S, L, HX6.out.1.below HB8.out, HFS, HX6.out.2.1.trans (HB8.out.mono HX6.out.2.1.size)⟩
       have e2 : (kd == 2) = false := beq_eq_false_iff_ne.2 hk2
       clear hk0 hk1 hk2
       go_wp2
       go_meet
       exact ⟨V, S, L, HTA.out.less (fun _ q => q.elim), HFS, HBA.out⟩
      case rest =>
       obtain ⟨V9, S9, L9, hT9, HF9, hb9⟩ := hcut
       generalize hww : wc = w6 at *
       clear hww
       have HT6 := Lib.hid hT9
       have HB6 := Lib.hid hb9
       obtain ⟨AR, cR, kr, hro⟩ := hT9.rhave
       have HRO := Lib.hid hro
       clear hT9 hb9 hro HTA HGD HBA HDA HFS
       go_upto_region 36 with fail
       refine Flow.wp_region_go (by kernel_rfl) (by kernel_rfl) (by kernel_rfl) 200 rfl (by kernel_rfl) (lpV p r cR AR V9) (fun gz L wz => Below w6.heap.size w6 wz ∧ (L 1 = true → wz.ownsRow w6.heap.size 73 2 (.slice gz.1 V9.length gz.2) V9.length (entV V9))) (fun _ _ => False) ((none, 0)) (⟨(Below.refl _ _).drew, (fun q => by cases q)⟩) ⟨?_, ?_, ?_, ?_, ?_, ?_, ?_, ?_, trivial⟩ ?_ ?_
       ·intro gz L wz K ρ hc0 hf0 hF hO hU hcl hi hd hC hK
        have e8 : ρ (.tmp 8) = .pointer (some ⟨p, 0, none⟩) := hO 8 (by kernel_rfl)
        simp [go_sem, Flow.ylP_value, Flow.ylP_skip, Flow.ylP_enter, Flow.ylP_panic, hc0, hf0, e8]
        exact hK gz wz hC (fun _ _ => rfl)
       ·intro gz L wz K ρ hc0 hf0 hF hO hU hcl hi hd hC hK
        have d0 : L 0 = true := hd ⟨0, .data⟩ (by simp) rfl
        have e178 : ρ (.tmp 178) = .pointer (some ⟨p, 0, none⟩) := hF 178 0 (by kernel_rfl) d0
        simp [go_sem, Flow.ylP_value, Flow.ylP_skip, Flow.ylP_enter, Flow.ylP_panic, hc0, hf0, e178]
        refine (lb_phave (HT6.out.below hC.1) (HYL.out V9 HF9.out.1.vr)).mono ?_
        rintro r' wn ⟨v, rfl, hov, hbn⟩
        obtain ⟨A9, c9, rfl⟩ := own_form hov
        exact ⟨_, rfl, hK (A9, c9) wn ⟨hC.1.trans (hbn.mono hC.1.size), fun _ => own_less hov hC.1.size⟩ (by intro j hj; unfold lpV; split <;> first | rfl | (rw [hi] at hj; cases hj) | (have hz := hcl _ 1 (by kernel_rfl) hj; rw [hi] at hz; cases hz))⟩
       ·intro gz L wz K ρ hc0 hf0 hF hO hU hcl hi hd hC hK
        have e10 : ρ (.tmp 10) = .pointer (some ⟨r, 0, none⟩) := hO 10 (by kernel_rfl)
        simp [go_sem, Flow.ylP_value, Flow.ylP_skip, Flow.ylP_enter, Flow.ylP_panic, hc0, hf0, e10]
        exact hK gz wz hC (fun _ _ => rfl)
       ·intro gz L wz K ρ hc0 hf0 hF hO hU hcl hi hd hC hK
        have d2 : L 2 = true := hd ⟨2, .data⟩ (by simp) rfl
        have e180 : ρ (.tmp 180) = .pointer (some ⟨r, 0, none⟩) := hF 180 2 (by kernel_rfl) d2
        simp [go_sem, Flow.ylP_value, Flow.ylP_skip, Flow.ylP_enter, Flow.ylP_panic, hc0, hf0, e180]
        exact hK gz wz hC (fun _ _ => rfl)
       ·intro gz L wz K ρ hc0 hf0 hF hO hU hcl hi hd hC hK
        have d3 : L 3 = true := hd ⟨3, .data⟩ (by simp) rfl
        have e181 : ρ (.tmp 181) = .pointer (some ⟨r, 0, none⟩) := hF 181 3 (by kernel_rfl) d3
        simp [go_sem, Flow.ylP_value, Flow.ylP_skip, Flow.ylP_enter, Flow.ylP_panic, hc0, hf0, e181]
        exact hK gz wz hC (fun _ _ => rfl)
       ·intro gz L wz K ρ hc0 hf0 hF hO hU hcl hi hd hC hK
        have d4 : L 4 = true := hd ⟨4, .data⟩ (by simp) rfl
        have e182 : ρ (.tmp 182) = .pointer (some ⟨r, 1, none⟩) := hF 182 4 (by kernel_rfl) d4
        have cc := (hC.1.cell (p := ⟨r, 1, none⟩) (cell_lt kr)).trans kr
        simp [go_sem, Flow.ylP_value, Flow.ylP_skip, Flow.ylP_enter, Flow.ylP_panic, hc0, hf0, e182, cc]
        exact hK gz wz hC (fun _ _ => rfl)
       ·intro gz L wz K ρ hc0 hf0 hF hO hU hcl hi hd hC hK
        have d1 : L 1 = true := hd ⟨1, .data⟩ (by simp) rfl
        have e179 : ρ (.tmp 179) = .slice gz.1 V9.length gz.2 := hF 179 1 (by kernel_rfl) d1
        have d5 : L 5 = true := hd ⟨5, .data⟩ (by simp) rfl
        have e183 : ρ (.tmp 183) = .slice AR V9.length cR := hF 183 5 (by kernel_rfl) d5
        simp [go_sem, Flow.ylP_value, Flow.ylP_skip, Flow.ylP_enter, Flow.ylP_panic, hc0, hf0, e179, e183]
        have ho1 := hC.2 d1
        have ho2 := (Turned.of_below (S := fun _ => False) hC.1).own HRO.out (fun _ _ q => q)
        refine (equal_ents V9.length V9.length gz.2 cR gz.1 AR V9 V9 wz (Sl.of_own ho1) (Sl.of_own ho2) (own_cap' ho1) (own_cap' ho2)).mono ?_
        rintro r' wn ⟨rfl, q, rfl⟩
        have hbn : Below wz.heap.size wz (wz.drewN q) := below_drewN (Below.refl _ _) q
        rw [decide_eq_true rfl]
        exact ⟨_, rfl, hK gz _ ⟨hC.1.trans (hbn.mono hC.1.size), fun z => (Turned.of_below (S := fun _ => False) hbn).own (hC.2 z) (fun _ _ q => q)⟩ (by intro j hj; unfold lpV; split <;> first | rfl | (rw [hi] at hj; cases hj) | (have hz := hcl _ 6 (by kernel_rfl) hj; rw [hi] at hz; cases hz))⟩
       ·intro gz L wz K ρ hc0 hf0 hF hO hU hcl hi hd hC hK
        have d6 : L 6 = true := hd ⟨6, .data⟩ (by simp) rfl
        have e184 : ρ (.tmp 184) = .bool true := hF 184 6 (by kernel_rfl) d6
        simp [go_sem, Flow.ylP_value, Flow.ylP_skip, Flow.ylP_enter, Flow.ylP_panic, hc0, hf0, e184]
        exact hK gz wz hC (fun _ _ => rfl)
       ·intro gz L ch wz h; exact h.elim
       ·intro gz L wz hL hC
        have HC7 := Lib.hid hC.1
        clear hC hL kr
        simp only [Flow.putAll, lpV]
        try simp [Act.put]
        have HX7 := Lib.hid (And.intro (HT6.out.below HC7.out) (HB6.out.trans (HC7.out.mono HB6.out.size)))
        obtain ⟨m1, m2⟩ := W1.out
        clear HC7
        go_wp2
        go_roundw
        case rel => exact ⟨k2 + 1, V9, S9, L9, HK1.out, by go_num, HX7.out.1, HF9, HX7.out.2⟩
        case measure => simpa [intOf] using HM1.out
     ·obtain rfl : ln = k2 := by omega
      have HSN : Hid (S.length ≤ 300) := Lib.hid (by rw [HFS.out.2.len]; exact HFS.out.1.len)
      have HWR : Hid (∀ x ∈ S, wright x = 0) := Lib.hid (fun x hx => HFS.out.1.wr x (HFS.out.2.perm.mem_iff.1 hx))
      have HT := Lib.hid hT
      have HB := Lib.hid hb
      have hw1 := lb_pwrites hT (by have := HSN.out; omega)
      clear hlt hk hT hb
      go_wp2_with (first
       | (go_at_call 26; refine hw1.mono ?_; rintro e w7 ⟨v7, rfl, ho7, hb7⟩; have hT7 := HT.out.below hb7; have hw2 := lb_rwrites hT7 HFS.out.2 (by have := HFS.out.1.len; omega); have HB7 := Lib.hid (HB.out.trans (hb7.mono HB.out.size)); have HO7 := Lib.hid ho7; have HT7 := Lib.hid hT7; obtain ⟨A7, c7, rfl⟩ := own_form ho7; clear ho7 hb7 hT7 hw1)
       | (go_at_call 27; refine hw2.mono ?_; rintro e w8 ⟨v8, rfl, ho8, hb8⟩; have hT8 := HT7.out.below hb8; have HB8 := Lib.hid (HB7.out.trans (hb8.mono HB7.out.size)); have ho78 := (Turned.of_below (S := fun _ => False) hb8).own HO7.out (fun _ _ q => q); obtain ⟨A8, c8, rfl⟩ := own_form ho8; have heq := equal_wrs S.length S.length c7 c8 A7 A8 S S w8 (Sl.of_own ho78) (Sl.of_own ho8) (own_cap' ho78) (own_cap' ho8); rw [decide_eq_true rfl] at heq; have HT8 := Lib.hid hT8; clear ho8 hb8 hT8 ho78 hw2)
       | (go_at_call 25; refine heq.mono ?_; rintro e w9 ⟨rfl, q9, rfl⟩; have hb9 : Below w8.heap.size w8 (w8.drewN q9) := below_drewN (Below.refl _ _) q9; have hT9 := HT8.out.below hb9; have HB9 := Lib.hid (HB8.out.trans (hb9.mono HB8.out.size)); have HT9 := Lib.hid hT9; have hce := lb_pcells hT9 (by have := HSN.out; omega) HWR.out (HG.out.below HB9.out); clear hb9 hT9 heq)
       | (go_at_call 28; refine hce.mono ?_; rintro e w10 ⟨v10, o10, rfl, hO10, hI10, hb10⟩; have hT10 := HT9.out.below hb10; have HB10 := Lib.hid (HB9.out.trans (hb10.mono HB9.out.size)); have hw3 := lb_rwrites hT10 HFS.out.2 (by have := HFS.out.1.len; omega); have HO10 := Lib.hid (And.intro hO10 hI10); obtain ⟨L10, z1, z2, z3⟩ := hO10; obtain ⟨A10, c10, rfl⟩ := own_form z2; clear hb10 hT10 hI10 z1 z2 z3 hce)
       | (go_at_call 27; refine hw3.mono ?_; rintro e w11 ⟨v11, rfl, ho11, hb11⟩; have hO11 := HO10.out.1.below hb11; have HB11 := Lib.hid (HB10.out.trans (hb11.mono HB10.out.size)); obtain ⟨A11, c11, rfl⟩ := own_form ho11; have hrc := rcells_any (w := w11) A11 S.length c11 S (Sl.of_own ho11) HWR.out (by have := HSN.out; omega); have HO11 := Lib.hid hO11; clear ho11 hb11 hO11 hw3)
       | (go_at_call 14; refine hrc.mono ?_; rintro e w12 ⟨v12, o12, rfl, hO12, hI12, hb12⟩; obtain rfl : o12 = o10 := hI12.one HO10.out.2; have hO11b := HO11.out.below hb12; have hsm := lsame_any hO11b hO12; have HB12 := Lib.hid (HB11.out.trans (hb12.mono HB11.out.size)); obtain ⟨L12, z1, z2, z3⟩ := hO12; obtain ⟨A12, c12, rfl⟩ := own_form z2; clear hb12 hI12 z1 z2 z3 hO11b hrc)
       | (go_at_call 12; refine hsm.mono ?_; rintro e w13 ⟨rfl, hb13⟩; have HB13 := Lib.hid (HB12.out.trans (hb13.mono HB12.out.size)); clear hb13 hsm))
      go_ret
      exact ⟨rfl, HB13.out⟩
   ·have hnew := pnewl_no rep wr hrep
    have hbr := bare_any (.bare 2 (by decide) : ErrIs wr (.iface 33 (.int .i64 2)) 2 (-1)) (HG.out.below HB.out) 2
    rw [yes_l] at hbr
    by_cases h0 : rep < 0
    ·have e1 : decide (rep < 0) = true := decide_eq_true h0
     clear hrep h0
     go_wp2_with (first
      | (go_at_call 15; refine hnew.mono ?_; rintro e w5 ⟨rfl, rfl⟩)
      | (go_at_call 8; refine hbr.mono ?_; rintro e w7 ⟨rfl, hb7⟩))
     go_ret
     exact ⟨rfl, HB.out.trans (hb7.mono HB.out.size)⟩
    ·have e1 : decide (rep < 0) = false := decide_eq_false h0
     have e2 : decide (200 < rep) = true := decide_eq_true (by omega)
     clear hrep h0
     go_wp2_with (first
      | (go_at_call 15; refine hnew.mono ?_; rintro e w5 ⟨rfl, rfl⟩)
      | (go_at_call 8; refine hbr.mono ?_; rintro e w7 ⟨rfl, hb7⟩))
     go_ret
     exact ⟨rfl, HB.out.trans (hb7.mono HB.out.size)⟩
end Go.Proofs.YtlpkpfpmcppciaaGreatDoor
end
