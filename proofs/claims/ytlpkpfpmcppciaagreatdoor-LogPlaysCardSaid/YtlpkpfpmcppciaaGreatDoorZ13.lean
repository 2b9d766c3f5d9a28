/- The store's Do. Printed by gen_storedo.py.

The store: New, Of. -/
import Derived.Test.YtlpkpfpmcppciaaGreatDoorZ12
import Derived.Test.YtlpkpfpmcppciaaGreatDoorZ7
import Derived.Test.YtlpkpfpmcppciaaGreatDoorZ5
import Derived.Test.YtlpkpfpmcppciaaGreatDoorZ10
import Derived.Lib.Hide
import Derived.Deep.DeepCutAuto
import Derived.Deep.Cut
import Derived.Deep.CutBlock
import Derived.Test.YtlpkpfpmcppciaaGreatDoorZ2
section
namespace Go.Proofs.YtlpkpfpmcppciaaGreatDoor
set_option linter.unusedSimpArgs false
set_option linter.unusedVariables false
open Go.RowKit As Go.Maps
def putVs (X : CelX) (p q : Bool) (v : ByteArray) : List Value := [.string X.1, .bool (cond p true X.2.1.has), .string (cond q v X.2.1.text), .int .i64 X.2.1.sum, X.lv]
def addVs (X : CelX) (p : Bool) (z : Int) : List Value := [.string X.1, .bool X.2.1.has, .string X.2.1.text, .int .i64 (cond p (IntKind.i64.wrap (X.2.1.sum + z)) X.2.1.sum), X.lv]
def insVs (X : CelX) (p : Bool) (y : Option Addr × Nat × Nat) : List Value := [.string X.1, .bool X.2.1.has, .string X.2.1.text, .int .i64 X.2.1.sum, cond p (.slice y.1 y.2.1 y.2.2) X.lv]def sd4V (s m gb : Nat) (fp : FP) (k : ByteArray) (g : Unit) : Nat → Value
 | 0 => .pointer (some ⟨s, 0, none⟩)
 | 1 => .pointer (some ⟨s, 0, none⟩)
 | 2 => .pointer (some ⟨s, 0, none⟩)
 | 3 => .map (some m)
 | 4 => .pointer (some ⟨gb, 3, none⟩)
 | 5 => .string k
 | 6 => ptrV (fp.pl k)
 | 7 => ptrV (fp.pl k)
 | _ => undef
def sd7V (s m gb p : Nat) (k : ByteArray) (g : Unit) : Nat → Value
 | 0 => .pointer (some ⟨s, 0, none⟩)
 | 1 => .pointer (some ⟨s, 0, none⟩)
 | 2 => .pointer (some ⟨s, 0, none⟩)
 | 3 => .map (some m)
 | 4 => .pointer (some ⟨gb, 3, none⟩)
 | 5 => .string k
 | 6 => .pointer (some ⟨p, 0, none⟩)
 | _ => undef
def sd10V (gb p : Nat) (v : ByteArray) (g : Unit) : Nat → Value
 | 0 => .pointer (some ⟨p, 0, none⟩)
 | 1 => .pointer (some ⟨p, 0, none⟩)
 | 2 => .pointer (some ⟨gb, 4, none⟩)
 | 3 => .string v
 | 4 => .pointer (some ⟨p, 0, none⟩)
 | 5 => .pointer (some ⟨p, 1, none⟩)
 | 7 => .pointer (some ⟨p, 0, none⟩)
 | 8 => .pointer (some ⟨p, 2, none⟩)
 | _ => undef
def sd12V (s m gb : Nat) (k : ByteArray) (g : Unit) : Nat → Value
 | 0 => .pointer (some ⟨s, 0, none⟩)
 | 1 => .pointer (some ⟨s, 0, none⟩)
 | 2 => .pointer (some ⟨s, 0, none⟩)
 | 3 => .map (some m)
 | 4 => .pointer (some ⟨gb, 3, none⟩)
 | 5 => .string k
 | _ => undef
def sd14V (gb p : Nat) (X : CelX) (z : Int) (g : Unit) : Nat → Value
 | 0 => .pointer (some ⟨p, 0, none⟩)
 | 1 => .pointer (some ⟨p, 0, none⟩)
 | 2 => .pointer (some ⟨p, 3, none⟩)
 | 3 => .int .i64 X.2.1.sum
 | 4 => .pointer (some ⟨gb, 5, none⟩)
 | 5 => .int .i64 z
 | 6 => .int .i64 (IntKind.i64.wrap (X.2.1.sum + z))
 | 7 => .pointer (some ⟨p, 0, none⟩)
 | 8 => .pointer (some ⟨p, 3, none⟩)
 | _ => undef
def sd16V (gb p : Nat) (X : CelX) (v : ByteArray) (z i : Nat) (gz : Nat × Option Addr × Nat × Nat) : Nat → Value
 | 0 => .pointer (some ⟨p, 0, none⟩)
 | 1 => .pointer (some ⟨p, 0, none⟩)
 | 2 => .pointer (some ⟨p, 0, none⟩)
 | 3 => .pointer (some ⟨p, 4, none⟩)
 | 4 => .slice X.2.2.1 X.2.1.list.length X.2.2.2.2
 | 5 => .pointer (some ⟨gb, 5, none⟩)
 | 6 => .int .i64 (z : Int)
 | 7 => .pointer (some ⟨p, 0, none⟩)
 | 8 => .pointer (some ⟨p, 0, none⟩)
 | 9 => .pointer (some ⟨p, 4, none⟩)
 | 10 => .slice X.2.2.1 X.2.1.list.length X.2.2.2.2
 | 11 => .int .i64 (X.2.1.list.length : Int)
 | 12 => .int .i64 (i : Int)
 | 13 => .pointer (some ⟨gb, 4, none⟩)
 | 14 => .string v
 | 15 => .slice (some ⟨gz.1, 0, none⟩) 1 1
 | 16 => .slice gz.2.1 gz.2.2.1 gz.2.2.2
 | 17 => .pointer (some ⟨p, 0, none⟩)
 | 18 => .pointer (some ⟨p, 4, none⟩)
 | _ => undef
set_option maxHeartbeats 4000000 in
set_option maxRecDepth 100000 in
theorem sdo_ok {w : World} {B s m n : Nat} {fp : FP} (h : SR w B s m n fp) (hn : n < 4000000000000) (a b c : Int) (k v : ByteArray) (z : Int) (hks : k.size ≤ maxLen) (hr : wright (a, b, c, k, v, z) = 0) :
  Calls Tryz.prog 9 #[.pointer (some ⟨s, 0, none⟩), wrV a b c k v z] w fun e w' => e = .returned .nilIface ∧ DoPost w w' B s m n fp (a, b, c, k, v, z) := by
 have hkind := Lib.hid (wright_kind hr)
 have HR := Lib.hid hr
 have HK := Lib.hid hks
 have HN : Hid (n < maxLen) := Lib.hid (by unfold maxLen; omega)
 have HN4 := Lib.hid hn
 have bA := below1 w (.cells #[.int .i64 a, .int .i64 b, .int .i64 c, .string k, .string v, .int .i64 z] 32)
 have hWA : RC (w.alloc (.cells #[.int .i64 a, .int .i64 b, .int .i64 c, .string k, .string v, .int .i64 z] 32)) w.heap.size (wrCells (a, b, c, k, v, z)) := RC.new w (wrCells (a, b, c, k, v, z)) _
 have hra : ∀ W, Calls Tryz.prog 34 #[wrV a b c k v z] W fun r w' => r = .returned .nilIface ∧ Below W.heap.size W w' := fun W => (wright_any (a, b, c, k, v, z) W).mono fun r w' ⟨e, hb⟩ => ⟨by rw [e, HR.out]; rfl, hb⟩
 unfold wrV at hra ⊢
 clear hr hks hn
 go_enter Tryz.func9, Tryz.ntmps9
 go_wp2_with fail
 refine (hra _).mono ?_
 rintro e w2 ⟨rfl, hb2⟩
 obtain ⟨x, hx⟩ : ∃ x : Wr, x = (a, b, c, k, v, z) := ⟨_, rfl⟩
 have HX := Lib.hid hx
 have HW3 : Hid ((wrCells x)[3]? = some (.string k)) := Lib.hid (by rw [hx]; rfl)
 have hW2 := hWA.below hb2
 rw [← hx] at hW2
 have hbw2 := bA.trans (hb2.mono bA.size)
 have h2 := h.below hbw2
 obtain ⟨gb, hgb⟩ : ∃ g, g = w.heap.size := ⟨_, rfl⟩
 have HGA : Hid (¬ SF s m fp gb) := Lib.hid (fun e => by have := (h.within gb e).2; omega)
 have HGS : Hid (gb < w2.heap.size) := Lib.hid (by have := hb2.size; simp at this; omega)
 have HM2 := Lib.hid (Moves.of_below (F := SF s m fp) hbw2)
 have HS2 := Lib.hid (Nat.le_trans h.base hbw2.size)
 rw [← hgb] at hW2 ⊢
 clear hra hWA hb2 hbw2 bA h hx hgb
 go_upto_region 4 with (fail)
 refine Flow.wp_region_go (by kernel_rfl) (by kernel_rfl) (by kernel_rfl) 84 rfl (by kernel_rfl) (sd4V s m gb fp k) (fun _ _ wz => SR wz B s m n fp ∧ RC wz gb (wrCells x) ∧ Below w2.heap.size w2 wz) (fun _ _ => False) (()) (⟨h2.below (Below.refl _ _).drew, hW2.below (Below.refl _ _).drew, (Below.refl _ _).drew⟩) ⟨?_, ?_, ?_, ?_, ?_, ?_, ?_, ?_, trivial⟩ ?_ ?_
 ·intro gz L wz K ρ hc0 hf0 hF hO hU hcl hi hd hC hK
  have e0 : ρ (.tmp 0) = .pointer (some ⟨s, 0, none⟩) := hO 0 (by kernel_rfl)
  simp [go_sem, Flow.ylP_value, Flow.ylP_skip, Flow.ylP_enter, Flow.ylP_panic, hc0, hf0, e0]
  exact hK gz wz hC (fun _ _ => rfl)
 ·intro gz L wz K ρ hc0 hf0 hF hO hU hcl hi hd hC hK
  have d0 : L 0 = true := hd ⟨0, .data⟩ (by simp) rfl
  have e12 : ρ (.tmp 12) = .pointer (some ⟨s, 0, none⟩) := hF 12 0 (by kernel_rfl) d0
  simp [go_sem, Flow.ylP_value, Flow.ylP_skip, Flow.ylP_enter, Flow.ylP_panic, hc0, hf0, e12]
  exact hK gz wz hC (fun _ _ => rfl)
 ·intro gz L wz K ρ hc0 hf0 hF hO hU hcl hi hd hC hK
  have d1 : L 1 = true := hd ⟨1, .data⟩ (by simp) rfl
  have e13 : ρ (.tmp 13) = .pointer (some ⟨s, 0, none⟩) := hF 13 1 (by kernel_rfl) d1
  simp [go_sem, Flow.ylP_value, Flow.ylP_skip, Flow.ylP_enter, Flow.ylP_panic, hc0, hf0, e13]
  exact hK gz wz hC (fun _ _ => rfl)
 ·intro gz L wz K ρ hc0 hf0 hF hO hU hcl hi hd hC hK
  have d2 : L 2 = true := hd ⟨2, .data⟩ (by simp) rfl
  have e14 : ρ (.tmp 14) = .pointer (some ⟨s, 0, none⟩) := hF 14 2 (by kernel_rfl) d2
  have cc := (hC.1.root 0 _ rfl).1
  simp [go_sem, Flow.ylP_value, Flow.ylP_skip, Flow.ylP_enter, Flow.ylP_panic, hc0, hf0, e14, cc]
  exact hK gz wz hC (fun _ _ => rfl)
 ·intro gz L wz K ρ hc0 hf0 hF hO hU hcl hi hd hC hK
  have e3 : ρ (.tmp 3) = .pointer (some ⟨gb, 0, none⟩) := hO 3 (by kernel_rfl)
  simp [go_sem, Flow.ylP_value, Flow.ylP_skip, Flow.ylP_enter, Flow.ylP_panic, hc0, hf0, e3]
  exact hK gz wz hC (fun _ _ => rfl)
 ·intro gz L wz K ρ hc0 hf0 hF hO hU hcl hi hd hC hK
  have d4 : L 4 = true := hd ⟨4, .data⟩ (by simp) rfl
  have e16 : ρ (.tmp 16) = .pointer (some ⟨gb, 3, none⟩) := hF 16 4 (by kernel_rfl) d4
  have cc := (hC.2.1 3 _ HW3.out).1
  simp [go_sem, Flow.ylP_value, Flow.ylP_skip, Flow.ylP_enter, Flow.ylP_panic, hc0, hf0, e16, cc]
  exact hK gz wz hC (fun _ _ => rfl)
 ·intro gz L wz K ρ hc0 hf0 hF hO hU hcl hi hd hC hK
  have d3 : L 3 = true := hd ⟨3, .data⟩ (by simp) rfl
  have e15 : ρ (.tmp 15) = .map (some m) := hF 15 3 (by kernel_rfl) d3
  have d5 : L 5 = true := hd ⟨5, .data⟩ (by simp) rfl
  have e17 : ρ (.tmp 17) = .string k := hF 17 5 (by kernel_rfl) d5
  have hlk := hC.1.pm.look k HK.out
  unfold execOp
  simp only [resolve, Sem.run_bind, Sem.run_pure, Result.andThen_ok, e15, e17, hlk]
  exact hK gz wz hC (fun _ _ => rfl)
 ·intro gz L wz K ρ hc0 hf0 hF hO hU hcl hi hd hC hK
  have d6 : L 6 = true := hd ⟨6, .data⟩ (by simp) rfl
  have e18 : ρ (.tmp 18) = ptrV (fp.pl k) := hF 18 6 (by kernel_rfl) d6
  simp [go_sem, Flow.ylP_value, Flow.ylP_skip, Flow.ylP_enter, Flow.ylP_panic, hc0, hf0, e18]
  exact hK gz wz hC (fun _ _ => rfl)
 ·intro gz L ch wz h; exact h.elim
 intro gz L wz hL hC
 simp only [Flow.putAll, sd4V]
 simp [Act.put]
 obtain ⟨h3, hW3, hb23⟩ := hC
 have HM3 := Lib.hid (HM2.out.trans (.of_below hb23))
 have HGS3 : Hid (gb < wz.heap.size) := Lib.hid (Nat.lt_of_lt_of_le HGS.out hb23.size)
 have HB3 := Lib.hid (Nat.le_trans HS2.out hb23.size)
 clear h2 hW2 hb23 HM2 HS2 HGS
 generalize wz = w3 at *
 have hE1 : ∀ W : World, Sem.run Tryz.prog (eqGuard BinOp.eql 87 (Operand.tmp 19) (Operand.const (Value.pointer none)) (ptrV (fp.pl k)) (Value.pointer none)) W = .ok () W := fun W => by cases fp.pl k <;> rfl
 have hE2 : ∀ W : World, Sem.run Tryz.prog (binOp BinOp.eql 87 (ptrV (fp.pl k)) (Value.pointer none)) W = .ok (.bool (fp k).isNone) W := fun W => by
  have e : fp.pl k = (fp k).map (·.1) := rfl
  rw [e]
  cases fp k <;> rfl
 go_upto_if 20 with (fail)
 go_cut [6] (fun v6 wx => ∃ (p : Nat) (X : CelX) (fp1 : FP), v6 = .pointer (some ⟨p, 0, none⟩) ∧ Here w wx B s m n gb fp k x p X fp1)
 case first =>
  cases hfk : fp k with
  | none =>
   have hpv : ptrV (fp.pl k) = .pointer none := by unfold FP.pl; rw [hfk]; rfl
   rw [hpv]
   have b4 := below1 w3 (.cells #[.string k, .bool false, .string ⟨#[]⟩, .int .i64 0, .slice none 0 0] 90)
   have hp4 : RC (w3.alloc (.cells #[.string k, .bool false, .string ⟨#[]⟩, .int .i64 0, .slice none 0 0] 90)) w3.heap.size (celV (newX k)) := RC.new w3 (celV (newX k)) _
   have h4 := h3.below b4
   have hW4 := hW3.below b4
   have ck := (hW3 3 _ (by rw [HX.out]; rfl)).1
   obtain ⟨p, hp⟩ : ∃ p, p = w3.heap.size := ⟨_, rfl⟩
   go_wp2
   rw [← hp] at hp4 ⊢
   have HP := Lib.hid hp
   have HFK := Lib.hid hfk
   have HB4 := Lib.hid b4
   have HP4 := Lib.hid hp4
   have HGM : Hid (¬ gb = m) := Lib.hid (fun e => HGA.out (.inr (.inl e)))
   have HSM : Hid (¬ s = m) := Lib.hid h4.sl.2.2.2.2
   have H3 := Lib.hid h3
   clear hp hfk b4 hp4 hpv h3 hW3 ck
   generalize w3.alloc (.cells #[.string k, .bool false, .string ⟨#[]⟩, .int .i64 0, .slice none 0 0] 90) = w4 at *
   refine Flow.wp_region_go (by kernel_rfl) (by kernel_rfl) (by kernel_rfl) 84 rfl (by kernel_rfl) (sd7V s m gb p k) (fun _ L wz => PM wz m (cond (L 7) (n + 1) n) (cond (L 7) (setP fp.pl k (some p)) fp.pl) ∧ RC wz gb (wrCells x) ∧ RC wz s [.map (some m)] ∧ Turned (fun i => i = m) w4 wz) (fun _ _ => False) (()) (⟨(h4.below (Below.refl _ _).drew).pm, hW4.below (Below.refl _ _).drew, h4.root.below (Below.refl _ _).drew, .of_below (Below.refl _ _).drew⟩) ⟨?_, ?_, ?_, ?_, ?_, ?_, ?_, ?_, trivial⟩ ?_ ?_
   ·intro gz L wz K ρ hc0 hf0 hF hO hU hcl hi hd hC hK
    have e0 : ρ (.tmp 0) = .pointer (some ⟨s, 0, none⟩) := hO 0 (by kernel_rfl)
    simp [go_sem, Flow.ylP_value, Flow.ylP_skip, Flow.ylP_enter, Flow.ylP_panic, hc0, hf0, e0]
    exact hK gz wz hC (fun _ _ => rfl)
   ·intro gz L wz K ρ hc0 hf0 hF hO hU hcl hi hd hC hK
    have d0 : L 0 = true := hd ⟨0, .data⟩ (by simp) rfl
    have e25 : ρ (.tmp 25) = .pointer (some ⟨s, 0, none⟩) := hF 25 0 (by kernel_rfl) d0
    simp [go_sem, Flow.ylP_value, Flow.ylP_skip, Flow.ylP_enter, Flow.ylP_panic, hc0, hf0, e25]
    exact hK gz wz hC (fun _ _ => rfl)
   ·intro gz L wz K ρ hc0 hf0 hF hO hU hcl hi hd hC hK
    have d1 : L 1 = true := hd ⟨1, .data⟩ (by simp) rfl
    have e26 : ρ (.tmp 26) = .pointer (some ⟨s, 0, none⟩) := hF 26 1 (by kernel_rfl) d1
    simp [go_sem, Flow.ylP_value, Flow.ylP_skip, Flow.ylP_enter, Flow.ylP_panic, hc0, hf0, e26]
    exact hK gz wz hC (fun _ _ => rfl)
   ·intro gz L wz K ρ hc0 hf0 hF hO hU hcl hi hd hC hK
    have d2 : L 2 = true := hd ⟨2, .data⟩ (by simp) rfl
    have e27 : ρ (.tmp 27) = .pointer (some ⟨s, 0, none⟩) := hF 27 2 (by kernel_rfl) d2
    have cc := (hC.2.2.1 0 _ rfl).1
    simp [go_sem, Flow.ylP_value, Flow.ylP_skip, Flow.ylP_enter, Flow.ylP_panic, hc0, hf0, e27, cc]
    exact hK gz wz hC (fun _ _ => rfl)
   ·intro gz L wz K ρ hc0 hf0 hF hO hU hcl hi hd hC hK
    have e3 : ρ (.tmp 3) = .pointer (some ⟨gb, 0, none⟩) := hO 3 (by kernel_rfl)
    simp [go_sem, Flow.ylP_value, Flow.ylP_skip, Flow.ylP_enter, Flow.ylP_panic, hc0, hf0, e3]
    exact hK gz wz hC (fun _ _ => rfl)
   ·intro gz L wz K ρ hc0 hf0 hF hO hU hcl hi hd hC hK
    have d4 : L 4 = true := hd ⟨4, .data⟩ (by simp) rfl
    have e29 : ρ (.tmp 29) = .pointer (some ⟨gb, 3, none⟩) := hF 29 4 (by kernel_rfl) d4
    have cc := (hC.2.1 3 _ HW3.out).1
    simp [go_sem, Flow.ylP_value, Flow.ylP_skip, Flow.ylP_enter, Flow.ylP_panic, hc0, hf0, e29, cc]
    exact hK gz wz hC (fun _ _ => rfl)
   ·intro gz L wz K ρ hc0 hf0 hF hO hU hcl hi hd hC hK
    have e6 : ρ (.tmp 6) = .pointer (some ⟨p, 0, none⟩) := hO 6 (by kernel_rfl)
    simp [go_sem, Flow.ylP_value, Flow.ylP_skip, Flow.ylP_enter, Flow.ylP_panic, hc0, hf0, e6]
    exact hK gz wz hC (fun _ _ => rfl)
   ·intro gz L wz K ρ hc0 hf0 hF hO hU hcl hi hd hC hK
    have d3 : L 3 = true := hd ⟨3, .data⟩ (by simp) rfl
    have e28 : ρ (.tmp 28) = .map (some m) := hF 28 3 (by kernel_rfl) d3
    have d5 : L 5 = true := hd ⟨5, .data⟩ (by simp) rfl
    have e30 : ρ (.tmp 30) = .string k := hF 30 5 (by kernel_rfl) d5
    have d6 : L 6 = true := hd ⟨6, .data⟩ (by simp) rfl
    have e31 : ρ (.tmp 31) = .pointer (some ⟨p, 0, none⟩) := hF 31 6 (by kernel_rfl) d6
    rw [hi] at hC
    obtain ⟨w9, hrun, hpm, hg9⟩ := hC.1.put k HK.out HN.out p
    have ht9 : Turned (fun i => i = m) wz w9 := .of_grown hg9 rfl
    unfold execOp
    simp only [resolve, Sem.run_bind, Sem.run_pure, Result.andThen_ok, e28, e30, e31, hrun]
    refine hK gz w9 ?_ (fun _ _ => rfl)
    exact ⟨hpm, hC.2.1.turned ht9 HGM.out, hC.2.2.1.turned ht9 HSM.out, hC.2.2.2.trans ht9⟩
   ·intro gz L ch wz h; exact h.elim
   ·intro gz L wz hL hC
    rw [hL 7 (by decide)] at hC
    simp only [Flow.putAll, sd7V]
    simp [Act.put]
    obtain ⟨hpm, hwz, hrz, htz⟩ := hC
    have HH := Here.made H3.out HFK.out HB4.out HP.out HP4.out hpm htz HM3.out hwz HGS3.out HGA.out
    go_wp2
    go_meet
    exact ⟨p, newX k, _, rfl, HH⟩
  | some q =>
   obtain ⟨p, X⟩ := q
   have hpv : ptrV (fp.pl k) = .pointer (some ⟨p, 0, none⟩) := by unfold FP.pl; rw [hfk]; rfl
   rw [hpv]
   have HH := Lib.hid (Here.found h3 hfk HM3.out hW3 HGA.out)
   clear hpv hfk h3 hW3
   go_wp2
   go_meet
   exact ⟨p, X, fp, rfl, HH.out⟩
 case rest =>
  obtain ⟨p, X, fp1, rfl, HH⟩ := hcut
  generalize hww : wc = w5 at *
  clear hww h3 hW3 HM3 HGS3 HB3
  have HHH := Lib.hid HH
  have h5 := HH.sr
  have hW5 := HH.wr
  obtain ⟨⟨hP, hL5⟩, hXk, hXp⟩ := HH.cel
  have HXK := Lib.hid hXk
  have HXP := Lib.hid hXp
  have HXN := Lib.hid HH.len
  have HGP : Hid (¬ gb = p) := Lib.hid (fun e => HH.apart (.inr (.inr ⟨k, p, X, HH.at, .inl e⟩)))
  have HGO : Hid (¬ X.lv.ownBlock = some gb) := Lib.hid (fun e => HH.apart (.inr (.inr ⟨k, p, X, HH.at, .inr e⟩)))
  have HGM : Hid (¬ gb = m) := Lib.hid (fun e => HH.apart (.inr (.inl e)))
  have HSM : Hid (¬ s = m) := Lib.hid h5.sl.2.2.2.2
  clear HH hXk hXp
  have ck2 : w5.cell? ⟨gb, 2, none⟩ = some (.int .i64 c) := (hW5 2 _ (by rw [HX.out]; rfl)).1
  have hkd := hkind.out
  try simp only at hkd
  rcases hkd with rfl | rfl | rfl | ⟨rfl, hz0, hz1⟩
  ·have hx := HX.out
   subst hx
   go_wp2
   clear ck2
   refine Flow.wp_region_go (by kernel_rfl) (by kernel_rfl) (by kernel_rfl) 84 rfl (by kernel_rfl) (sd10V gb p v) (fun _ L wz => RC wz p (putVs X (L 6) (L 9) v) ∧ RC wz gb (wrCells (a, b, 1, k, v, z)) ∧ Turned (fun i => i = p) w5 wz) (fun _ _ => False) (()) (⟨hP.below (Below.refl _ _).drew, hW5.below (Below.refl _ _).drew, .of_below (Below.refl _ _).drew⟩) ⟨?_, ?_, ?_, ?_, ?_, ?_, ?_, ?_, ?_, ?_, trivial⟩ ?_ ?_
   ·intro gz L wz K ρ hc0 hf0 hF hO hU hcl hi hd hC hK
    have e6 : ρ (.tmp 6) = .pointer (some ⟨p, 0, none⟩) := hO 6 (by kernel_rfl)
    simp [go_sem, Flow.ylP_value, Flow.ylP_skip, Flow.ylP_enter, Flow.ylP_panic, hc0, hf0, e6]
    exact hK gz wz hC (fun _ _ => rfl)
   ·intro gz L wz K ρ hc0 hf0 hF hO hU hcl hi hd hC hK
    have e6 : ρ (.tmp 6) = .pointer (some ⟨p, 0, none⟩) := hO 6 (by kernel_rfl)
    simp [go_sem, Flow.ylP_value, Flow.ylP_skip, Flow.ylP_enter, Flow.ylP_panic, hc0, hf0, e6]
    exact hK gz wz hC (fun _ _ => rfl)
   ·intro gz L wz K ρ hc0 hf0 hF hO hU hcl hi hd hC hK
    have e3 : ρ (.tmp 3) = .pointer (some ⟨gb, 0, none⟩) := hO 3 (by kernel_rfl)
    simp [go_sem, Flow.ylP_value, Flow.ylP_skip, Flow.ylP_enter, Flow.ylP_panic, hc0, hf0, e3]
    exact hK gz wz hC (fun _ _ => rfl)
   ·intro gz L wz K ρ hc0 hf0 hF hO hU hcl hi hd hC hK
    have d2 : L 2 = true := hd ⟨2, .data⟩ (by simp) rfl
    have e38 : ρ (.tmp 38) = .pointer (some ⟨gb, 4, none⟩) := hF 38 2 (by kernel_rfl) d2
    have cc := (hC.2.1 4 _ rfl).1
    simp [go_sem, Flow.ylP_value, Flow.ylP_skip, Flow.ylP_enter, Flow.ylP_panic, hc0, hf0, e38, cc]
    exact hK gz wz hC (fun _ _ => rfl)
   ·intro gz L wz K ρ hc0 hf0 hF hO hU hcl hi hd hC hK
    have d0 : L 0 = true := hd ⟨0, .data⟩ (by simp) rfl
    have e36 : ρ (.tmp 36) = .pointer (some ⟨p, 0, none⟩) := hF 36 0 (by kernel_rfl) d0
    simp [go_sem, Flow.ylP_value, Flow.ylP_skip, Flow.ylP_enter, Flow.ylP_panic, hc0, hf0, e36]
    exact hK gz wz hC (fun _ _ => rfl)
   ·intro gz L wz K ρ hc0 hf0 hF hO hU hcl hi hd hC hK
    have d4 : L 4 = true := hd ⟨4, .data⟩ (by simp) rfl
    have e40 : ρ (.tmp 40) = .pointer (some ⟨p, 0, none⟩) := hF 40 4 (by kernel_rfl) d4
    simp [go_sem, Flow.ylP_value, Flow.ylP_skip, Flow.ylP_enter, Flow.ylP_panic, hc0, hf0, e40]
    exact hK gz wz hC (fun _ _ => rfl)
   ·intro gz L wz K ρ hc0 hf0 hF hO hU hcl hi hd hC hK
    have d5 : L 5 = true := hd ⟨5, .data⟩ (by simp) rfl
    have e41 : ρ (.tmp 41) = .pointer (some ⟨p, 1, none⟩) := hF 41 5 (by kernel_rfl) d5
    have fc := (hC.1 1 _ rfl).2
    have cc := (hC.1 1 _ rfl).1
    rw [hi] at hC
    simp [go_sem, Flow.ylP_value, Flow.ylP_skip, Flow.ylP_enter, Flow.ylP_panic, hc0, hf0, e41, fc, cc]
    exact hK () _ ⟨hC.1.set 1 (.bool true) (by simp [putVs]), hC.2.1.turned (F := fun i => i = p) (.set _ _ _ rfl) HGP.out, hC.2.2.trans (.set _ _ _ rfl)⟩ (fun _ _ => rfl)
   ·intro gz L wz K ρ hc0 hf0 hF hO hU hcl hi hd hC hK
    have d1 : L 1 = true := hd ⟨1, .data⟩ (by simp) rfl
    have e37 : ρ (.tmp 37) = .pointer (some ⟨p, 0, none⟩) := hF 37 1 (by kernel_rfl) d1
    simp [go_sem, Flow.ylP_value, Flow.ylP_skip, Flow.ylP_enter, Flow.ylP_panic, hc0, hf0, e37]
    exact hK gz wz hC (fun _ _ => rfl)
   ·intro gz L wz K ρ hc0 hf0 hF hO hU hcl hi hd hC hK
    have d7 : L 7 = true := hd ⟨7, .data⟩ (by simp) rfl
    have e42 : ρ (.tmp 42) = .pointer (some ⟨p, 0, none⟩) := hF 42 7 (by kernel_rfl) d7
    simp [go_sem, Flow.ylP_value, Flow.ylP_skip, Flow.ylP_enter, Flow.ylP_panic, hc0, hf0, e42]
    exact hK gz wz hC (fun _ _ => rfl)
   ·intro gz L wz K ρ hc0 hf0 hF hO hU hcl hi hd hC hK
    have d8 : L 8 = true := hd ⟨8, .data⟩ (by simp) rfl
    have e43 : ρ (.tmp 43) = .pointer (some ⟨p, 2, none⟩) := hF 43 8 (by kernel_rfl) d8
    have d3 : L 3 = true := hd ⟨3, .data⟩ (by simp) rfl
    have e39 : ρ (.tmp 39) = .string v := hF 39 3 (by kernel_rfl) d3
    have fc := (hC.1 2 _ rfl).2
    have cc := (hC.1 2 _ rfl).1
    rw [hi] at hC
    simp [go_sem, Flow.ylP_value, Flow.ylP_skip, Flow.ylP_enter, Flow.ylP_panic, hc0, hf0, e43, e39, fc, cc]
    exact hK () _ ⟨hC.1.set 2 (.string v) (by simp [putVs]), hC.2.1.turned (F := fun i => i = p) (.set _ _ _ rfl) HGP.out, hC.2.2.trans (.set _ _ _ rfl)⟩ (fun _ _ => rfl)
   ·intro gz L ch wz h; exact h.elim
   ·intro gz L wz hL hC
    rw [hL 6 (by decide), hL 9 (by decide)] at hC
    simp only [Flow.putAll, sd10V]
    simp [Act.put]
    go_wp2
    go_ret
    have hY : CelAt wz B p (X.1, { X.2.1 with has := true, text := v }, X.2.2) := ⟨hC.1, hL5.turned hC.2.2 (fun j hj e => HXP.out (by rw [← e]; exact hj))⟩
    exact ⟨rfl, .close HHH.out.sr HHH.out.is HHH.out.cell HHH.out.moves (hC.2.2.mono fun j hj => .inl hj) _ hY HXK.out HXP.out (Nat.le_succ_of_le HXN.out) (fun j hj => .inl hj) HR.out rfl (by show (1 : Int) ≠ 2; decide) rfl⟩
  ·have hx := HX.out
   subst hx
   go_wp2
   clear ck2
   refine Flow.wp_region_go (by kernel_rfl) (by kernel_rfl) (by kernel_rfl) 84 rfl (by kernel_rfl) (sd12V s m gb k) (fun _ L wz => PM wz m (n + 1) (cond (L 6) (setP fp1.pl k none) fp1.pl) ∧ RC wz gb (wrCells (a, b, 2, k, v, z)) ∧ RC wz s [.map (some m)] ∧ Turned (fun i => i = m) w5 wz) (fun _ _ => False) (()) (⟨(h5.below (Below.refl _ _).drew).pm, hW5.below (Below.refl _ _).drew, h5.root.below (Below.refl _ _).drew, .of_below (Below.refl _ _).drew⟩) ⟨?_, ?_, ?_, ?_, ?_, ?_, ?_, trivial⟩ ?_ ?_
   ·intro gz L wz K ρ hc0 hf0 hF hO hU hcl hi hd hC hK
    have e0 : ρ (.tmp 0) = .pointer (some ⟨s, 0, none⟩) := hO 0 (by kernel_rfl)
    simp [go_sem, Flow.ylP_value, Flow.ylP_skip, Flow.ylP_enter, Flow.ylP_panic, hc0, hf0, e0]
    exact hK gz wz hC (fun _ _ => rfl)
   ·intro gz L wz K ρ hc0 hf0 hF hO hU hcl hi hd hC hK
    have d0 : L 0 = true := hd ⟨0, .data⟩ (by simp) rfl
    have e46 : ρ (.tmp 46) = .pointer (some ⟨s, 0, none⟩) := hF 46 0 (by kernel_rfl) d0
    simp [go_sem, Flow.ylP_value, Flow.ylP_skip, Flow.ylP_enter, Flow.ylP_panic, hc0, hf0, e46]
    exact hK gz wz hC (fun _ _ => rfl)
   ·intro gz L wz K ρ hc0 hf0 hF hO hU hcl hi hd hC hK
    have d1 : L 1 = true := hd ⟨1, .data⟩ (by simp) rfl
    have e47 : ρ (.tmp 47) = .pointer (some ⟨s, 0, none⟩) := hF 47 1 (by kernel_rfl) d1
    simp [go_sem, Flow.ylP_value, Flow.ylP_skip, Flow.ylP_enter, Flow.ylP_panic, hc0, hf0, e47]
    exact hK gz wz hC (fun _ _ => rfl)
   ·intro gz L wz K ρ hc0 hf0 hF hO hU hcl hi hd hC hK
    have d2 : L 2 = true := hd ⟨2, .data⟩ (by simp) rfl
    have e48 : ρ (.tmp 48) = .pointer (some ⟨s, 0, none⟩) := hF 48 2 (by kernel_rfl) d2
    have cc := (hC.2.2.1 0 _ rfl).1
    simp [go_sem, Flow.ylP_value, Flow.ylP_skip, Flow.ylP_enter, Flow.ylP_panic, hc0, hf0, e48, cc]
    exact hK gz wz hC (fun _ _ => rfl)
   ·intro gz L wz K ρ hc0 hf0 hF hO hU hcl hi hd hC hK
    have e3 : ρ (.tmp 3) = .pointer (some ⟨gb, 0, none⟩) := hO 3 (by kernel_rfl)
    simp [go_sem, Flow.ylP_value, Flow.ylP_skip, Flow.ylP_enter, Flow.ylP_panic, hc0, hf0, e3]
    exact hK gz wz hC (fun _ _ => rfl)
   ·intro gz L wz K ρ hc0 hf0 hF hO hU hcl hi hd hC hK
    have d4 : L 4 = true := hd ⟨4, .data⟩ (by simp) rfl
    have e50 : ρ (.tmp 50) = .pointer (some ⟨gb, 3, none⟩) := hF 50 4 (by kernel_rfl) d4
    have cc := (hC.2.1 3 _ rfl).1
    simp [go_sem, Flow.ylP_value, Flow.ylP_skip, Flow.ylP_enter, Flow.ylP_panic, hc0, hf0, e50, cc]
    exact hK gz wz hC (fun _ _ => rfl)
   ·intro gz L wz K ρ hc0 hf0 hF hO hU hcl hi hd hC hK
    have d3 : L 3 = true := hd ⟨3, .data⟩ (by simp) rfl
    have e49 : ρ (.tmp 49) = .map (some m) := hF 49 3 (by kernel_rfl) d3
    have d5 : L 5 = true := hd ⟨5, .data⟩ (by simp) rfl
    have e51 : ρ (.tmp 51) = .string k := hF 51 5 (by kernel_rfl) d5
    rw [hi] at hC
    obtain ⟨w9, hrun, hpm, hg9⟩ := hC.1.drop k HK.out 0
    have ht9 : Turned (fun i => i = m) wz w9 := .of_grown hg9 rfl
    unfold execOp
    simp only [resolve, invoke, builtin, Sem.run_bind, Sem.run_pure, Result.andThen_ok, List.map_toArray, List.map_cons, List.map_nil, e49, e51, hrun]
    refine hK gz w9 ?_ (fun _ _ => rfl)
    exact ⟨hpm, hC.2.1.turned ht9 HGM.out, hC.2.2.1.turned ht9 HSM.out, hC.2.2.2.trans ht9⟩
   ·intro gz L ch wz h; exact h.elim
   ·intro gz L wz hL hC
    rw [hL 6 (by decide)] at hC
    simp only [Flow.putAll, sd12V]
    simp [Act.put]
    go_wp2
    go_ret
    exact ⟨rfl, .gone HHH.out.sr HHH.out.is HHH.out.moves hC.2.2.2 hC.1 HR.out rfl rfl⟩
  ·have hx := HX.out
   subst hx
   go_wp2
   clear ck2
   refine Flow.wp_region_go (by kernel_rfl) (by kernel_rfl) (by kernel_rfl) 84 rfl (by kernel_rfl) (sd14V gb p X z) (fun _ L wz => RC wz p (addVs X (L 9) z) ∧ RC wz gb (wrCells (a, b, 3, k, v, z)) ∧ Turned (fun i => i = p) w5 wz) (fun _ _ => False) (()) (⟨hP.below (Below.refl _ _).drew, hW5.below (Below.refl _ _).drew, .of_below (Below.refl _ _).drew⟩) ⟨?_, ?_, ?_, ?_, ?_, ?_, ?_, ?_, ?_, ?_, trivial⟩ ?_ ?_
   ·intro gz L wz K ρ hc0 hf0 hF hO hU hcl hi hd hC hK
    have e6 : ρ (.tmp 6) = .pointer (some ⟨p, 0, none⟩) := hO 6 (by kernel_rfl)
    simp [go_sem, Flow.ylP_value, Flow.ylP_skip, Flow.ylP_enter, Flow.ylP_panic, hc0, hf0, e6]
    exact hK gz wz hC (fun _ _ => rfl)
   ·intro gz L wz K ρ hc0 hf0 hF hO hU hcl hi hd hC hK
    have d0 : L 0 = true := hd ⟨0, .data⟩ (by simp) rfl
    have e54 : ρ (.tmp 54) = .pointer (some ⟨p, 0, none⟩) := hF 54 0 (by kernel_rfl) d0
    simp [go_sem, Flow.ylP_value, Flow.ylP_skip, Flow.ylP_enter, Flow.ylP_panic, hc0, hf0, e54]
    exact hK gz wz hC (fun _ _ => rfl)
   ·intro gz L wz K ρ hc0 hf0 hF hO hU hcl hi hd hC hK
    have d1 : L 1 = true := hd ⟨1, .data⟩ (by simp) rfl
    have e55 : ρ (.tmp 55) = .pointer (some ⟨p, 0, none⟩) := hF 55 1 (by kernel_rfl) d1
    simp [go_sem, Flow.ylP_value, Flow.ylP_skip, Flow.ylP_enter, Flow.ylP_panic, hc0, hf0, e55]
    exact hK gz wz hC (fun _ _ => rfl)
   ·intro gz L wz K ρ hc0 hf0 hF hO hU hcl hi hd hC hK
    have d2 : L 2 = true := hd ⟨2, .data⟩ (by simp) rfl
    have e56 : ρ (.tmp 56) = .pointer (some ⟨p, 3, none⟩) := hF 56 2 (by kernel_rfl) d2
    have h9 : L 9 = false := by cases h : L 9 with | false => rfl | true => (have := hcl 9 3 (by kernel_rfl) h; rw [hi] at this; cases this)
    have cc := (hC.1 3 _ rfl).1
    rw [h9] at cc
    simp [go_sem, Flow.ylP_value, Flow.ylP_skip, Flow.ylP_enter, Flow.ylP_panic, hc0, hf0, e56, cc]
    exact hK gz wz hC (fun _ _ => rfl)
   ·intro gz L wz K ρ hc0 hf0 hF hO hU hcl hi hd hC hK
    have e3 : ρ (.tmp 3) = .pointer (some ⟨gb, 0, none⟩) := hO 3 (by kernel_rfl)
    simp [go_sem, Flow.ylP_value, Flow.ylP_skip, Flow.ylP_enter, Flow.ylP_panic, hc0, hf0, e3]
    exact hK gz wz hC (fun _ _ => rfl)
   ·intro gz L wz K ρ hc0 hf0 hF hO hU hcl hi hd hC hK
    have d4 : L 4 = true := hd ⟨4, .data⟩ (by simp) rfl
    have e58 : ρ (.tmp 58) = .pointer (some ⟨gb, 5, none⟩) := hF 58 4 (by kernel_rfl) d4
    have cc := (hC.2.1 5 _ rfl).1
    simp [go_sem, Flow.ylP_value, Flow.ylP_skip, Flow.ylP_enter, Flow.ylP_panic, hc0, hf0, e58, cc]
    exact hK gz wz hC (fun _ _ => rfl)
   ·intro gz L wz K ρ hc0 hf0 hF hO hU hcl hi hd hC hK
    have d3 : L 3 = true := hd ⟨3, .data⟩ (by simp) rfl
    have e57 : ρ (.tmp 57) = .int .i64 X.2.1.sum := hF 57 3 (by kernel_rfl) d3
    have d5 : L 5 = true := hd ⟨5, .data⟩ (by simp) rfl
    have e59 : ρ (.tmp 59) = .int .i64 z := hF 59 5 (by kernel_rfl) d5
    simp [go_sem, Flow.ylP_value, Flow.ylP_skip, Flow.ylP_enter, Flow.ylP_panic, hc0, hf0, e57, e59]
    exact hK gz wz hC (fun _ _ => rfl)
   ·intro gz L wz K ρ hc0 hf0 hF hO hU hcl hi hd hC hK
    have d0 : L 0 = true := hd ⟨0, .data⟩ (by simp) rfl
    have e54 : ρ (.tmp 54) = .pointer (some ⟨p, 0, none⟩) := hF 54 0 (by kernel_rfl) d0
    simp [go_sem, Flow.ylP_value, Flow.ylP_skip, Flow.ylP_enter, Flow.ylP_panic, hc0, hf0, e54]
    exact hK gz wz hC (fun _ _ => rfl)
   ·intro gz L wz K ρ hc0 hf0 hF hO hU hcl hi hd hC hK
    have d7 : L 7 = true := hd ⟨7, .data⟩ (by simp) rfl
    have e61 : ρ (.tmp 61) = .pointer (some ⟨p, 0, none⟩) := hF 61 7 (by kernel_rfl) d7
    simp [go_sem, Flow.ylP_value, Flow.ylP_skip, Flow.ylP_enter, Flow.ylP_panic, hc0, hf0, e61]
    exact hK gz wz hC (fun _ _ => rfl)
   ·intro gz L wz K ρ hc0 hf0 hF hO hU hcl hi hd hC hK
    have d8 : L 8 = true := hd ⟨8, .data⟩ (by simp) rfl
    have e62 : ρ (.tmp 62) = .pointer (some ⟨p, 3, none⟩) := hF 62 8 (by kernel_rfl) d8
    have d6 : L 6 = true := hd ⟨6, .data⟩ (by simp) rfl
    have e60 : ρ (.tmp 60) = .int .i64 (IntKind.i64.wrap (X.2.1.sum + z)) := hF 60 6 (by kernel_rfl) d6
    have fc := (hC.1 3 _ rfl).2
    have cc := (hC.1 3 _ rfl).1
    rw [hi] at hC
    simp [go_sem, Flow.ylP_value, Flow.ylP_skip, Flow.ylP_enter, Flow.ylP_panic, hc0, hf0, e62, e60, fc, cc]
    exact hK () _ ⟨hC.1.set 3 (.int .i64 (IntKind.i64.wrap (X.2.1.sum + z))) (by simp [addVs]), hC.2.1.turned (F := fun i => i = p) (.set _ _ _ rfl) HGP.out, hC.2.2.trans (.set _ _ _ rfl)⟩ (fun _ _ => rfl)
   ·intro gz L ch wz h; exact h.elim
   ·intro gz L wz hL hC
    rw [hL 9 (by decide)] at hC
    simp only [Flow.putAll, sd14V]
    simp [Act.put]
    go_wp2
    go_ret
    have hC1 := hC.1
    unfold addVs at hC1
    simp only [cond_true, IntKind.wrap_i64] at hC1
    have hY : CelAt wz B p (X.1, { X.2.1 with sum := wrap64 (X.2.1.sum + z) }, X.2.2) := ⟨by unfold celV wrap64; exact hC1, hL5.turned hC.2.2 (fun j hj e => HXP.out (by rw [← e]; exact hj))⟩
    exact ⟨rfl, .close HHH.out.sr HHH.out.is HHH.out.cell HHH.out.moves (hC.2.2.mono fun j hj => .inl hj) _ hY HXK.out HXP.out (Nat.le_succ_of_le HXN.out) (fun j hj => .inl hj) HR.out rfl (by show (3 : Int) ≠ 2; decide) rfl⟩
  ·have hx := HX.out
   obtain ⟨z, rfl⟩ := Int.eq_ofNat_of_zero_le hz0
   subst hx
   obtain ⟨i, hi0⟩ : ∃ i, i = min z X.2.1.list.length := ⟨_, rfl⟩
   have HI := Lib.hid hi0
   have HMIN : Hid (min (z : Int) (X.2.1.list.length : Int) = (i : Int)) := Lib.hid (by rw [hi0]; omega)
   have HIL : Hid (i ≤ X.2.1.list.length) := Lib.hid (by rw [hi0]; exact Nat.min_le_right _ _)
   have HLB : Hid ((X.2.1.list.length + 1) * 16 ≤ 140737488355328) := Lib.hid (by have := HXN.out; have := HN4.out; omega)
   have HBB := Lib.hid h5.base
   have HOB : Hid (∀ e, X.lv.ownBlock = some e → e < w5.heap.size) := Lib.hid (fun e he => (hL5.lt e he).2)
   have HPO : Hid (¬ X.lv.ownBlock = some p) := HXP
   have HPN : Hid (∀ j, X.lv.ownBlock = some j ∨ w5.heap.size ≤ j → ¬ j = p) := Lib.hid (fun j hj e => by
    subst e
    rcases hj with hj | hj
    ·exact HXP.out hj
    ·have := cell_lt (hP 0 _ rfl).1
     simp only at this
     omega)
   have HSL := Lib.hid hL5.slice
   clear hi0 hz0 hz1
   go_wp2
   clear ck2
   refine Flow.wp_region_go (by kernel_rfl) (by kernel_rfl) (by kernel_rfl) 84 rfl (by kernel_rfl) (sd16V gb p X v z i) (fun gz L wz => RC wz gb (wrCells (a, b, 4, k, v, (z : Int))) ∧ RC wz p (insVs X (L 19) gz.2) ∧ (L 15 = true → L 16 = false → wz.heap[gz.1]? = some (.cells #[.string v] 9 (0, 0)) ∧ w5.heap.size ≤ gz.1) ∧ (L 16 = false → wz.ownsRow B 9 1 X.lv X.2.1.list.length (strsV X.2.1.list)) ∧ (L 16 = true → wz.ownsRow B 9 1 (.slice gz.2.1 gz.2.2.1 gz.2.2.2) (X.2.1.list.length + 1) (strsV (insAt X.2.1.list i v)) ∧ ∀ j, (Value.slice gz.2.1 gz.2.2.1 gz.2.2.2).ownBlock = some j → X.lv.ownBlock = some j ∨ w5.heap.size ≤ j) ∧ Turned (fun j => j = p ∨ X.lv.ownBlock = some j) w5 wz) (fun _ _ => False) ((0, none, 0, 0)) (⟨hW5.below (Below.refl _ _).drew, hP.below (Below.refl _ _).drew, (fun h => by cases h), fun _ => hL5.1.drew, (fun h => by cases h), .of_below (Below.refl _ _).drew⟩) ⟨?_, ?_, ?_, ?_, ?_, ?_, ?_, ?_, ?_, ?_, ?_, ?_, ?_, ?_, ?_, ?_, ?_, ?_, ?_, ?_, trivial⟩ ?_ ?_
   ·intro gz L wz K ρ hc0 hf0 hF hO hU hcl hi hd hC hK
    have e6 : ρ (.tmp 6) = .pointer (some ⟨p, 0, none⟩) := hO 6 (by kernel_rfl)
    simp [go_sem, Flow.ylP_value, Flow.ylP_skip, Flow.ylP_enter, Flow.ylP_panic, hc0, hf0, e6]
    exact hK gz wz hC (fun _ _ => rfl)
   ·intro gz L wz K ρ hc0 hf0 hF hO hU hcl hi hd hC hK
    have e6 : ρ (.tmp 6) = .pointer (some ⟨p, 0, none⟩) := hO 6 (by kernel_rfl)
    simp [go_sem, Flow.ylP_value, Flow.ylP_skip, Flow.ylP_enter, Flow.ylP_panic, hc0, hf0, e6]
    exact hK gz wz hC (fun _ _ => rfl)
   ·intro gz L wz K ρ hc0 hf0 hF hO hU hcl hi hd hC hK
    have d1 : L 1 = true := hd ⟨1, .data⟩ (by simp) rfl
    have e66 : ρ (.tmp 66) = .pointer (some ⟨p, 0, none⟩) := hF 66 1 (by kernel_rfl) d1
    simp [go_sem, Flow.ylP_value, Flow.ylP_skip, Flow.ylP_enter, Flow.ylP_panic, hc0, hf0, e66]
    exact hK gz wz hC (fun _ _ => rfl)
   ·intro gz L wz K ρ hc0 hf0 hF hO hU hcl hi hd hC hK
    have d2 : L 2 = true := hd ⟨2, .data⟩ (by simp) rfl
    have e67 : ρ (.tmp 67) = .pointer (some ⟨p, 0, none⟩) := hF 67 2 (by kernel_rfl) d2
    simp [go_sem, Flow.ylP_value, Flow.ylP_skip, Flow.ylP_enter, Flow.ylP_panic, hc0, hf0, e67]
    exact hK gz wz hC (fun _ _ => rfl)
   ·intro gz L wz K ρ hc0 hf0 hF hO hU hcl hi hd hC hK
    have d3 : L 3 = true := hd ⟨3, .data⟩ (by simp) rfl
    have e68 : ρ (.tmp 68) = .pointer (some ⟨p, 4, none⟩) := hF 68 3 (by kernel_rfl) d3
    have h19 : L 19 = false := by cases h : L 19 with | false => rfl | true => (have := hcl 19 4 (by kernel_rfl) h; rw [hi] at this; cases this)
    have cc0 := (hC.2.1 4 _ rfl).1
    rw [h19] at cc0
    have cc := cc0.trans (congrArg some HSL.out)
    simp [go_sem, Flow.ylP_value, Flow.ylP_skip, Flow.ylP_enter, Flow.ylP_panic, hc0, hf0, e68, cc]
    exact hK gz wz hC (fun _ _ => rfl)
   ·intro gz L wz K ρ hc0 hf0 hF hO hU hcl hi hd hC hK
    have e3 : ρ (.tmp 3) = .pointer (some ⟨gb, 0, none⟩) := hO 3 (by kernel_rfl)
    simp [go_sem, Flow.ylP_value, Flow.ylP_skip, Flow.ylP_enter, Flow.ylP_panic, hc0, hf0, e3]
    exact hK gz wz hC (fun _ _ => rfl)
   ·intro gz L wz K ρ hc0 hf0 hF hO hU hcl hi hd hC hK
    have d5 : L 5 = true := hd ⟨5, .data⟩ (by simp) rfl
    have e70 : ρ (.tmp 70) = .pointer (some ⟨gb, 5, none⟩) := hF 70 5 (by kernel_rfl) d5
    have cc := (hC.1 5 _ rfl).1
    simp [go_sem, Flow.ylP_value, Flow.ylP_skip, Flow.ylP_enter, Flow.ylP_panic, hc0, hf0, e70, cc]
    exact hK gz wz hC (fun _ _ => rfl)
   ·intro gz L wz K ρ hc0 hf0 hF hO hU hcl hi hd hC hK
    have e6 : ρ (.tmp 6) = .pointer (some ⟨p, 0, none⟩) := hO 6 (by kernel_rfl)
    simp [go_sem, Flow.ylP_value, Flow.ylP_skip, Flow.ylP_enter, Flow.ylP_panic, hc0, hf0, e6]
    exact hK gz wz hC (fun _ _ => rfl)
   ·intro gz L wz K ρ hc0 hf0 hF hO hU hcl hi hd hC hK
    have d7 : L 7 = true := hd ⟨7, .data⟩ (by simp) rfl
    have e72 : ρ (.tmp 72) = .pointer (some ⟨p, 0, none⟩) := hF 72 7 (by kernel_rfl) d7
    simp [go_sem, Flow.ylP_value, Flow.ylP_skip, Flow.ylP_enter, Flow.ylP_panic, hc0, hf0, e72]
    exact hK gz wz hC (fun _ _ => rfl)
   ·intro gz L wz K ρ hc0 hf0 hF hO hU hcl hi hd hC hK
    have d8 : L 8 = true := hd ⟨8, .data⟩ (by simp) rfl
    have e73 : ρ (.tmp 73) = .pointer (some ⟨p, 0, none⟩) := hF 73 8 (by kernel_rfl) d8
    simp [go_sem, Flow.ylP_value, Flow.ylP_skip, Flow.ylP_enter, Flow.ylP_panic, hc0, hf0, e73]
    exact hK gz wz hC (fun _ _ => rfl)
   ·intro gz L wz K ρ hc0 hf0 hF hO hU hcl hi hd hC hK
    have d9 : L 9 = true := hd ⟨9, .data⟩ (by simp) rfl
    have e74 : ρ (.tmp 74) = .pointer (some ⟨p, 4, none⟩) := hF 74 9 (by kernel_rfl) d9
    have h19 : L 19 = false := by cases h : L 19 with | false => rfl | true => (have := hcl 19 10 (by kernel_rfl) h; rw [hi] at this; cases this)
    have cc0 := (hC.2.1 4 _ rfl).1
    rw [h19] at cc0
    have cc := cc0.trans (congrArg some HSL.out)
    simp [go_sem, Flow.ylP_value, Flow.ylP_skip, Flow.ylP_enter, Flow.ylP_panic, hc0, hf0, e74, cc]
    exact hK gz wz hC (fun _ _ => rfl)
   ·intro gz L wz K ρ hc0 hf0 hF hO hU hcl hi hd hC hK
    have d10 : L 10 = true := hd ⟨10, .data⟩ (by simp) rfl
    have e75 : ρ (.tmp 75) = .slice X.2.2.1 X.2.1.list.length X.2.2.2.2 := hF 75 10 (by kernel_rfl) d10
    simp [go_sem, Flow.ylP_value, Flow.ylP_skip, Flow.ylP_enter, Flow.ylP_panic, hc0, hf0, e75]
    exact hK gz wz hC (fun _ _ => rfl)
   ·intro gz L wz K ρ hc0 hf0 hF hO hU hcl hi hd hC hK
    have d6 : L 6 = true := hd ⟨6, .data⟩ (by simp) rfl
    have e71 : ρ (.tmp 71) = .int .i64 (z : Int) := hF 71 6 (by kernel_rfl) d6
    have d11 : L 11 = true := hd ⟨11, .data⟩ (by simp) rfl
    have e76 : ρ (.tmp 76) = .int .i64 (X.2.1.list.length : Int) := hF 76 11 (by kernel_rfl) d11
    simp [go_sem, Flow.ylP_value, Flow.ylP_skip, Flow.ylP_enter, Flow.ylP_panic, hc0, hf0, e71, e76, HMIN.out]
    exact hK gz wz hC (fun _ _ => rfl)
   ·intro gz L wz K ρ hc0 hf0 hF hO hU hcl hi hd hC hK
    have e3 : ρ (.tmp 3) = .pointer (some ⟨gb, 0, none⟩) := hO 3 (by kernel_rfl)
    simp [go_sem, Flow.ylP_value, Flow.ylP_skip, Flow.ylP_enter, Flow.ylP_panic, hc0, hf0, e3]
    exact hK gz wz hC (fun _ _ => rfl)
   ·intro gz L wz K ρ hc0 hf0 hF hO hU hcl hi hd hC hK
    have d13 : L 13 = true := hd ⟨13, .data⟩ (by simp) rfl
    have e78 : ρ (.tmp 78) = .pointer (some ⟨gb, 4, none⟩) := hF 78 13 (by kernel_rfl) d13
    have cc := (hC.1 4 _ rfl).1
    simp [go_sem, Flow.ylP_value, Flow.ylP_skip, Flow.ylP_enter, Flow.ylP_panic, hc0, hf0, e78, cc]
    exact hK gz wz hC (fun _ _ => rfl)
   ·intro gz L wz K ρ hc0 hf0 hF hO hU hcl hi hd hC hK
    have d14 : L 14 = true := hd ⟨14, .data⟩ (by simp) rfl
    have e79 : ρ (.tmp 79) = .string v := hF 79 14 (by kernel_rfl) d14
    simp [go_sem, Flow.ylP_value, Flow.ylP_skip, Flow.ylP_enter, Flow.ylP_panic, hc0, hf0, e79]
    have h16 : L 16 = false := by cases h : L 16 with | false => rfl | true => (have := hcl 16 15 (by kernel_rfl) h; rw [hi] at this; cases this)
    have h19 : L 19 = false := by cases h : L 19 with | false => rfl | true => (have := hcl 19 15 (by kernel_rfl) h; rw [hi] at this; cases this)
    have hbn := below1 wz (.cells #[.string v] 9)
    refine hK (wz.heap.size, gz.2) _ ⟨hC.1.below hbn, hC.2.1.below hbn, fun _ _ => ⟨heap_alloc_new wz _, hC.2.2.2.2.2.size⟩, fun q => (hC.2.2.2.1 q).alloc _, fun q => absurd (show L 16 = true from q) (by rw [h16]; decide), hC.2.2.2.2.2.trans (.of_below hbn)⟩ (by intro j hj; unfold sd16V; split <;> first | rfl | (rw [hi] at hj; cases hj) | (have hz := hcl _ 15 (by kernel_rfl) hj; rw [hi] at hz; cases hz))
   ·intro gz L wz K ρ hc0 hf0 hF hO hU hcl hi hd hC hK
    have d4 : L 4 = true := hd ⟨4, .data⟩ (by simp) rfl
    have e69 : ρ (.tmp 69) = .slice X.2.2.1 X.2.1.list.length X.2.2.2.2 := hF 69 4 (by kernel_rfl) d4
    have d12 : L 12 = true := hd ⟨12, .data⟩ (by simp) rfl
    have e77 : ρ (.tmp 77) = .int .i64 (i : Int) := hF 77 12 (by kernel_rfl) d12
    have d15 : L 15 = true := hd ⟨15, .data⟩ (by simp) rfl
    have e80 : ρ (.tmp 80) = .slice (some ⟨gz.1, 0, none⟩) 1 1 := hF 80 15 (by kernel_rfl) d15
    have h19 : L 19 = false := by cases h : L 19 with | false => rfl | true => (have := hcl 19 16 (by kernel_rfl) h; rw [hi] at this; cases this)
    rw [h19] at hC
    obtain ⟨hv1, hv2⟩ := hC.2.2.1 d15 hi
    have hrow := hC.2.2.2.1 hi
    rw [HSL.out] at hrow
    simp [go_sem, Flow.ylP_value, Flow.ylP_skip, Flow.ylP_enter, Flow.ylP_panic, hc0, hf0, e69, e77, e80]
    refine (insert_any hrow i HIL.out v gz.1 HLB.out (Nat.le_trans HBB.out hC.2.2.2.2.2.size) hv1 (fun e => by rw [← HSL.out] at e; have := HOB.out _ e; omega)).mono ?_
    rintro r wn ⟨A', n', c', rfl, hins⟩
    rw [← HSL.out] at hins
    refine ⟨_, rfl, hK (gz.1, A', n', c') wn ?_ (by intro j hj; unfold sd16V; split <;> first | rfl | (rw [hi] at hj; cases hj) | (have hz := hcl _ 16 (by kernel_rfl) hj; rw [hi] at hz; cases hz))⟩
    have ht : Turned (fun j => j = p ∨ X.lv.ownBlock = some j) wz wn := hins.turn.mono fun j hj => .inr hj
    exact ⟨hC.1.turned hins.turn (fun e => HGO.out e), (by show RC wn p (insVs X (L 19) (A', n', c')); rw [h19]; exact hC.2.1.turned hins.turn (fun e => HPO.out e)), fun _ q => (by simp at q), fun q => (by simp at q), fun _ => ⟨hins.own, fun j hj => (hins.block j hj).imp id (fun e => Nat.le_trans hC.2.2.2.2.2.size e)⟩, hC.2.2.2.2.2.trans ht⟩
   ·intro gz L wz K ρ hc0 hf0 hF hO hU hcl hi hd hC hK
    have d0 : L 0 = true := hd ⟨0, .data⟩ (by simp) rfl
    have e65 : ρ (.tmp 65) = .pointer (some ⟨p, 0, none⟩) := hF 65 0 (by kernel_rfl) d0
    simp [go_sem, Flow.ylP_value, Flow.ylP_skip, Flow.ylP_enter, Flow.ylP_panic, hc0, hf0, e65]
    exact hK gz wz hC (fun _ _ => rfl)
   ·intro gz L wz K ρ hc0 hf0 hF hO hU hcl hi hd hC hK
    have d17 : L 17 = true := hd ⟨17, .data⟩ (by simp) rfl
    have e82 : ρ (.tmp 82) = .pointer (some ⟨p, 0, none⟩) := hF 82 17 (by kernel_rfl) d17
    simp [go_sem, Flow.ylP_value, Flow.ylP_skip, Flow.ylP_enter, Flow.ylP_panic, hc0, hf0, e82]
    exact hK gz wz hC (fun _ _ => rfl)
   ·intro gz L wz K ρ hc0 hf0 hF hO hU hcl hi hd hC hK
    have d18 : L 18 = true := hd ⟨18, .data⟩ (by simp) rfl
    have e83 : ρ (.tmp 83) = .pointer (some ⟨p, 4, none⟩) := hF 83 18 (by kernel_rfl) d18
    have d16 : L 16 = true := hd ⟨16, .data⟩ (by simp) rfl
    have e81 : ρ (.tmp 81) = .slice gz.2.1 gz.2.2.1 gz.2.2.2 := hF 81 16 (by kernel_rfl) d16
    have fc := (hC.2.1 4 _ rfl).2
    have cc := (hC.2.1 4 _ rfl).1
    rw [hi] at hC
    simp [go_sem, Flow.ylP_value, Flow.ylP_skip, Flow.ylP_enter, Flow.ylP_panic, hc0, hf0, e83, e81, fc, cc]
    obtain ⟨o1, o2⟩ := hC.2.2.2.2.1 d16
    refine hK gz _ ⟨hC.1.turned (F := fun j => j = p) (.set _ _ _ rfl) HGP.out, hC.2.1.set 4 (.slice gz.2.1 gz.2.2.1 gz.2.2.2) (by simp [insVs]), fun _ q => absurd (show L 16 = false from q) (by rw [d16]; decide), fun q => absurd (show L 16 = false from q) (by rw [d16]; decide), fun _ => ⟨(Turned.set (S := fun j => j = p) _ 4 _ rfl).own o1 (fun j hj => HPN.out j (o2 j hj)), o2⟩, hC.2.2.2.2.2.trans (.set _ _ _ (.inl rfl))⟩ (fun _ _ => rfl)
   ·intro gz L ch wz h; exact h.elim
   ·intro gz L wz hL hC
    rw [hL 19 (by decide)] at hC
    simp only [Flow.putAll, sd16V]
    simp [Act.put]
    go_wp2
    go_ret
    obtain ⟨c1, c2, c3, c4, c5, c6⟩ := hC
    obtain ⟨o1, o2⟩ := c5 (hL 16 (by decide))
    have hY : CelAt wz B p (X.1, { X.2.1 with list := insAt X.2.1.list i v }, gz.2.1, gz.2.2.1, gz.2.2.2) := ⟨c2, by
     refine ⟨?_, fun e => ?_⟩
     ·show wz.ownsRow B 9 1 (.slice gz.2.1 gz.2.2.1 gz.2.2.2) (insAt X.2.1.list i v).length (strsV (insAt X.2.1.list i v))
      rw [insAt_len]
      exact o1
     ·have := congrArg List.length e
      simp only [insAt_len, List.length_nil] at this
      omega⟩
    exact ⟨rfl, .close HHH.out.sr HHH.out.is HHH.out.cell HHH.out.moves c6 _ hY HXK.out (fun e => HPN.out p (o2 p e) rfl) (by show (insAt X.2.1.list i v).length ≤ n + 1; rw [insAt_len]; exact Nat.succ_le_succ HXN.out) o2 HR.out rfl (by show (4 : Int) ≠ 2; decide) (by
     rw [HI.out]
     simp [Cel.step])⟩
set_option maxHeartbeats 1000000 in
theorem sdo_any {w : World} {B s m n : Nat} {fp : FP} (h : SR w B s m n fp) (hn : n < 4000000000000) (x : Wr) (hx : wrFits x) :
  Calls Tryz.prog 9 #[.pointer (some ⟨s, 0, none⟩), wrV x.1 x.2.1 x.2.2.1 x.2.2.2.1 x.2.2.2.2.1 x.2.2.2.2.2] w fun e w' => e = .returned (errV (wright x)) ∧ DoPost w w' B s m n fp x := by
 obtain ⟨a, b, c, k, v, z⟩ := x
 by_cases hr : wright (a, b, c, k, v, z) = 0
 ·rw [hr]
  exact sdo_ok h hn a b c k v z hx.2.2.2.1 hr
 ·have bA := below1 w (.cells #[.int .i64 a, .int .i64 b, .int .i64 c, .string k, .string v, .int .i64 z] 32)
  have HE := Lib.hid (errV_of hr)
  have HH := Lib.hid (And.intro h hr)
  have hra := fun W => wright_any (a, b, c, k, v, z) W
  rw [HE.out] at hra
  rw [HE.out]
  unfold wrV at hra ⊢
  simp only at hra ⊢
  clear hr h hx
  go_enter Tryz.func9, Tryz.ntmps9
  go_wp2_with fail
  refine (hra _).mono ?_
  rintro e w2 ⟨rfl, hb2⟩
  have hbw2 := bA.trans (hb2.mono bA.size)
  clear hra
  go_wp2
  go_ret
  exact ⟨rfl, .no HH.out.1 hbw2 HH.out.2⟩
end Go.Proofs.YtlpkpfpmcppciaaGreatDoor
end

section
namespace Go.Proofs.YtlpkpfpmcppciaaGreatDoor
set_option linter.unusedSimpArgs false
set_option linter.unusedVariables false
open Go.RowKit As Go.Maps
set_option maxHeartbeats 1000000 in
set_option maxRecDepth 100000 in
theorem snew_any (w : World) : Calls Tryz.prog 6 #[] w fun e w' => ∃ s m, e = .returned (.pointer (some ⟨s, 0, none⟩)) ∧ SR w' w.heap.size s m 0 FP.nil ∧ Below w.heap.size w w' := by
 have hmm := @run_makeMap Tryz.prog
 have b1 := bel1 w (.map #[] 0)
 have iM := PM.made w
 have b2 := bel1 (w.alloc (.map #[] 0)) (.cells #[.map (some w.heap.size)] 80)
 have rc := RC.new (w.alloc (.map #[] 0)) [.map (some w.heap.size)] 80
 have hs : (w.alloc (.map #[] 0)).heap.size = w.heap.size + 1 := by simp
 have hs2 : ((w.alloc (.map #[] 0)).alloc (.cells #[.map (some w.heap.size)] 80)).heap.size = w.heap.size + 2 := by simp
 have iM2 : PM ((w.alloc (.map #[] 0)).alloc (.cells #[.map (some w.heap.size)] 80)) w.heap.size 0 FP.nil.pl := iM.at (b2.block _ (by omega))
 rw [hs] at rc
 have hSR : SR ((w.alloc (.map #[] 0)).alloc (.cells #[.map (some w.heap.size)] 80)) w.heap.size (w.heap.size + 1) w.heap.size 0 FP.nil :=
  ⟨rc, iM2, (fun k p x e => by cases e), (fun k i h => by obtain ⟨p, x, e, _⟩ := h; cases e), (fun k j i h => by obtain ⟨p, x, e, _⟩ := h; cases e), ⟨by omega, by omega, Nat.le_refl _, by omega, by omega⟩⟩
 have b12 := b1.trans (b2.mono b1.size)
 clear b1 iM b2 rc hs hs2 iM2
 go_enter Tryz.func6, Tryz.ntmps6
 go_wp2
 go_ret
 exact ⟨_, _, rfl, hSR, b12⟩
/-- What Of answers. -/
structure OfPost (w w' : World) (l : List Wr) (v e : Value) : Prop where
 ex : (∃ k x, l[k]? = some x ∧ wright x ≠ 0 ∧ (∀ y ∈ l.take k, wright y = 0) ∧ v = .slice none 0 0 ∧ ErrIs w' e (wright x) (k : Int)) ∨ ((∀ y ∈ l, wright y = 0) ∧ e = .nilIface ∧ ∃ o, OutR w' w.heap.size v o ∧ OutOf (stoOf l) o)
theorem OutR.less {w : World} {B B' : Nat} {v : Value} {o : List (ByteArray × Cel)} (h : OutR w B v o) (hb : B' ≤ B) : OutR w B' v o := by
 obtain ⟨L, h1, h2, h3⟩ := h
 exact ⟨L, h1, own_less h2 hb, fun x hx => (h3 x hx).less hb⟩
theorem OutR.below {w w' : World} {B : Nat} {v : Value} {o : List (ByteArray × Cel)} (h : OutR w B v o) (hb : Below w.heap.size w w') : OutR w' B v o := by
 obtain ⟨L, h1, h2, h3⟩ := h
 exact ⟨L, h1, (Turned.of_below (S := fun _ => False) hb).own h2 (fun _ _ q => q), fun x hx => (h3 x hx).below hb⟩
theorem take_snoc {α : Type} {l : List α} {k : Nat} {x : α} (h : l[k]? = some x) : l.take (k + 1) = l.take k ++ [x] := by
 obtain ⟨hk, e⟩ := List.getElem?_eq_some_iff.1 h
 rw [List.take_succ_eq_append_getElem hk, e]
set_option maxHeartbeats 4000000 in
set_option maxRecDepth 100000 in
theorem sof_any {w : World} (A : Option Addr) (n c : Nat) (l : List Wr) (hl : Sl w w.heap.size 6 A n (l.flatMap wrCells)) (hf : ∀ x ∈ l, wrFits x) (hn : n ≤ 2200000000000) (hg : Handle w) :
  Calls Tryz.prog 10 #[.slice A n c] w fun e w' => ∃ v u, e = .returned (.tuple #[v, u]) ∧ OfPost w w' l v u ∧ Below w.heap.size w w' := by
 have hll := Lib.hid (slk_len wrCells 6 (by omega) (fun _ => rfl) hl)
 have HF := Lib.hid hf
 clear hf
 go_enter Tryz.func10, Tryz.ntmps10
 go_wp2_with (first
  | (go_at_call 6; refine (snew_any _).mono ?_; rintro e w1 ⟨s, m, rfl, hs, hb1⟩))
 have hb1s := hb1.size
 go_loopw [5, 6, 7, 11] (fun _ _ _ i wr => ∃ (k : Nat) (fp : FP), k ≤ n ∧ i = .int .i64 k ∧ SR wr w.heap.size s m k fp ∧ Hid (fp.sto = stoOf (l.take k) ∧ ∀ y ∈ l.take k, wright y = 0) ∧ Below w.heap.size w wr) (fun _ _ _ i _ => n - (intOf i).toNat)
 case atStart => exact ⟨0, FP.nil, by omega, rfl, hs, Lib.hid ⟨rfl, fun y hy => by simp at hy⟩, hb1⟩
 case round =>
  obtain ⟨k, fp, hk, rfl, hR, HK, hb⟩ := hrel
  clear hs hb1 hb1s
  by_cases hlt : k < n
  ·obtain ⟨b, o, x, rfl, hbl, hx, hc⟩ := slk_at wrCells 6 (fun _ => rfl) hl hll.out hlt
   have HX := Lib.hid hx
   have HFX := Lib.hid (HF.out x (List.mem_of_getElem? hx))
   obtain ⟨a1, a2, a3, a4, a5, a6⟩ := x
   have c0 := (hb.cell (p := ⟨b, _, none⟩) hbl).trans (hc 0 _ rfl)
   have c1 := (hb.cell (p := ⟨b, _, none⟩) hbl).trans (hc 1 _ rfl)
   have c2 := (hb.cell (p := ⟨b, _, none⟩) hbl).trans (hc 2 _ rfl)
   have c3 := (hb.cell (p := ⟨b, _, none⟩) hbl).trans (hc 3 _ rfl)
   have c4 := (hb.cell (p := ⟨b, _, none⟩) hbl).trans (hc 4 _ rfl)
   have c5 := (hb.cell (p := ⟨b, _, none⟩) hbl).trans (hc 5 _ rfl)
   simp only [Nat.add_zero] at c0
   have bA := bel1 wr (.cells #[.int .i64 a1, .int .i64 a2, .int .i64 a3, .string a4, .string a5, .int .i64 a6] 32)
   have hRA := hR.below bA
   have hbA := hb.trans (bA.mono hb.size)
   have hk4 : k < 4000000000000 := by omega
   have hw63 : IntKind.i64.wrap ((k : Int) + 1) = ((k + 1 : Nat) : Int) := by rw [show (k : Int) + 1 = ((k + 1 : Nat) : Int) by omega]; exact IntWalk.i64_in _ (by omega)
   have hw64 : wrap64 ((k : Int) + 1) = ((k + 1 : Nat) : Int) := by rw [show (k : Int) + 1 = ((k + 1 : Nat) : Int) by omega]; exact IntWalk.wrap64_in _ (by omega)
   have hdo := sdo_any hRA hk4 (a1, a2, a3, a4, a5, a6) HFX.out
   have HWR := Lib.hid (And.intro hRA.within hRA.base)
   unfold wrV at hdo
   simp only at hdo
   clear hc hx hR hb bA hRA
   by_cases hr : wright (a1, a2, a3, a4, a5, a6) = 0
   ·have HR := Lib.hid hr
    rw [hr, errV_zero] at hdo
    clear hr
    go_wp2_with (first
     | (go_at_call 9; refine hdo.mono ?_; rintro e w2 ⟨rfl, fp', hR2, hst, hm2⟩))
    have hb2 := hbA.trans (hm2.below HWR.out.1 HWR.out.2)
    go_roundw
    case rel => exact ⟨k + 1, fp', by omega, by go_num, hR2, Lib.hid ⟨by rw [hst]; unfold doneSto; rw [if_pos HR.out, HK.out.1, take_snoc HX.out, stoOf_snoc], fun y hy => by
     rw [take_snoc HX.out] at hy
     rcases List.mem_append.1 hy with hy | hy
     ·exact HK.out.2 y hy
     ·rw [List.mem_singleton.1 hy]; exact HR.out⟩, hb2⟩
    case measure => simp [intOf]; omega
   ·have HR := Lib.hid hr
    rw [errV_of hr] at hdo
    clear hr
    go_upto_region 6 with (first
     | (go_at_call 9; refine hdo.mono ?_; rintro e w2 ⟨rfl, fp', hR2, hst, hm2⟩))
    have hb2 := hbA.trans (hm2.below HWR.out.1 HWR.out.2)
    have hg2 := hg.below hb2
    have HB2 := Lib.hid hb2
    generalize hee : wright (a1, a2, a3, a4, a5, a6) = ee at *
    have HEE := Lib.hid hee
    have he0 : ErrIs w2 (.iface 33 (.int .i64 ee)) ee (-1) := .bare ee HR.out
    clear hee hR2 hst hm2 hbA hb2 hdo c0 c1 c2 c3 c4 c5
    go_wp2_with (first
     | (go_at_call 36; refine (tell_any he0 hg2).mono ?_; rintro r w3 ⟨rfl, hb3⟩))
    have b4 := bel1 w3 (.cells #[.int .i64 ee, .int .i64 (k : Int)] 95)
    have rc4 := RC.new w3 [.int .i64 ee, .int .i64 (k : Int)] 95
    have hb4 := HB2.out.trans ((hb3.trans (b4.mono hb3.size)).mono HB2.out.size)
    go_ret2
    exact ⟨_, _, rfl, ⟨.inl ⟨k, _, HX.out, by rw [HEE.out]; exact HR.out, HK.out.2, rfl, by rw [HEE.out]; exact .at_ _ 0 _ _ HR.out (rc4 0 _ rfl).1 (rc4 1 _ rfl).1⟩⟩, hb4⟩
  ·obtain rfl : k = n := by omega
   have htk : l.take k = l := List.take_of_length_le (by rw [hll.out]; exact Nat.le_refl _)
   rw [htk] at HK
   have HB := Lib.hid hb
   clear hb
   go_wp2_with (first
    | (go_at_call 13; refine (scells_any hR hn).mono ?_; rintro r w2 ⟨v, o, rfl, hO, hOut, hb2⟩))
   go_ret2
   rw [HK.out.1] at hOut
   exact ⟨_, _, rfl, ⟨.inr ⟨HK.out.2, rfl, o, hO.less HB.out.size, hOut⟩⟩, HB.out.trans (hb2.mono HB.out.size)⟩
end Go.Proofs.YtlpkpfpmcppciaaGreatDoor
end
