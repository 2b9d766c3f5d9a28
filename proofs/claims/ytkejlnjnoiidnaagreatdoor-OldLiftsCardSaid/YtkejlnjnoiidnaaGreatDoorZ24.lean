/- Tail of the reference says what wtail says. Printed by gen_rtail.py. -/
import Derived.Test.YtkejlnjnoiidnaaGreatDoorZ8
import Derived.Test.YtkejlnjnoiidnaaGreatDoorZ9
import Derived.Test.YtkejlnjnoiidnaaGreatDoorZ14
import Derived.Maps.StringElems
set_option linter.unusedSimpArgs false
set_option linter.unusedVariables false
section
namespace Go.Proofs.YtkejlnjnoiidnaaGreatDoor
open Go.RowKit As Go.Maps
theorem zzs {a b c f : Int} {d e : ByteArray} (h : zao (a, b, c, d, e, f) = 0) : -1125899906842624 ≤ f ∧ f ≤ 1125899906842624 ∧ (c = 2 → e.size = 0) := by
 unfold zao at h;simp only at h;split at h
 ·omega
 ·split at h
  ·omega
  ·split at h
   ·omega
   ·split at h
    ·omega
    ·split at h
     ·omega
     ·omega
theorem yev {w w' : World} {B n : Nat} {P : Program} {k : TypeId} {R : Value → Option (DataW Unit × List MemPlace)} {D : DataW Unit} (h : w.ownsMap P k R B n D) (hb : Below w.heap.size w w') : w'.ownsMap P k R B n D := by
 have hlt := h.lt;obtain ⟨es, clock, he, F, hs, hD⟩ := h;exact ⟨es, clock, (hb.block B hlt).trans he, F, hs, hD⟩
abbrev litS (s : ByteArray) : DataW Unit := .lit (.string s.data.toList)
abbrev k64 (n : Int) : Lit := .int .i64 n
structure TMap (w0 : World) (V S3 S4 : ByteArray) (g : Nat) (l2 l3 l8 l16 : Bool) (w : World) : Prop where
 base : w0.heap.size ≤ g
 map : ∃ D, w.ownsMap Tryz.prog 3 (plainElem Tryz.prog 9) g (l2.toNat + l3.toNat + l8.toNat + l16.toNat) D ∧ IsMap D ∧
  (l2 = true → D.atKey (k64 1) (litS ⟨#[]⟩) = litS V) ∧ (l3 = true → D.atKey (k64 2) (litS ⟨#[]⟩) = litS ⟨#[]⟩) ∧ (l8 = true → D.atKey (k64 3) (litS ⟨#[]⟩) = litS S3) ∧ (l16 = true → D.atKey (k64 4) (litS ⟨#[]⟩) = litS S4)
structure TI (w0 : World) (V S3 S4 : ByteArray) (g : Nat) (l0 l2 l3 l8 l16 l17 : Bool) (w : World) : Prop where
 bel : Below w0.heap.size w0 w
 map : l0 = true → TMap w0 V S3 S4 g l2 l3 l8 l16 w
 no : l0 = false → l2 = false ∧ l3 = false ∧ l8 = false ∧ l16 = false ∧ l17 = false
 all : l17 = true → l2 = true ∧ l3 = true ∧ l8 = true ∧ l16 = true
abbrev TInv (w0 : World) (V S3 S4 : ByteArray) (g : Nat) (L : Nat → Bool) (w : World) : Prop := TI w0 V S3 S4 g (L 0) (L 2) (L 3) (L 8) (L 16) (L 17) w
theorem TMap.grow {w0 w w' : World} {V S3 S4 : ByteArray} {g : Nat} {l2 l3 l8 l16 : Bool} (h : TMap w0 V S3 S4 g l2 l3 l8 l16 w) (hb : Below w.heap.size w w') : TMap w0 V S3 S4 g l2 l3 l8 l16 w' := by
 obtain ⟨h1, D, hD, r⟩ := h;exact ⟨h1, D, yev hD hb, r⟩
theorem TI.grow {w0 w w' : World} {V S3 S4 : ByteArray} {g : Nat} {l0 l2 l3 l8 l16 l17 : Bool} (h : TI w0 V S3 S4 g l0 l2 l3 l8 l16 l17 w) (hb : Below w.heap.size w w') : TI w0 V S3 S4 g l0 l2 l3 l8 l16 l17 w' :=
 ⟨h.bel.trans (hb.mono h.bel.size), fun h0 => (h.map h0).grow hb, h.no, h.all⟩
theorem TI.made {w0 w : World} {V S3 S4 : ByteArray} {g : Nat} {l2 l3 l8 l16 l17 : Bool} (h : TI w0 V S3 S4 g false l2 l3 l8 l16 l17 w) : TI w0 V S3 S4 w.heap.size true l2 l3 l8 l16 l17 (w.alloc (.map #[] 0)) := by
 obtain ⟨rfl, rfl, rfl, rfl, rfl⟩ := h.no rfl;exact ⟨h.bel.alloc h.bel.size _, fun _ => ⟨h.bel.size, .map [], World.ownsMap_made _ _ _ _, ⟨[], rfl⟩, fun h => (by cases h), fun h => (by cases h), fun h => (by cases h), fun h => (by cases h)⟩, fun h => (by cases h), fun h => (by cases h)⟩
theorem yjm : Keyed Tryz.prog 3 := int_keyed Tryz.underlying3
theorem ykm (w : World) : (zeroValue 9).run Tryz.prog w = .ok (.string ⟨#[]⟩) w := by kernel_rfl
theorem zxn {a b : Int} (h : a ≠ b) : k64 a ≠ k64 b := fun e => h (by injection e)
theorem key_ok (n : Int) : WideAt.IsKeyLit (k64 n) := by simp [WideAt.IsKeyLit]
theorem TMap.put {w0 w : World} {V S3 S4 : ByteArray} {g : Nat} {l2 l3 l8 l16 : Bool} (h : TMap w0 V S3 S4 g l2 l3 l8 l16 w) (k : Int) (s : ByteArray) (hk : k = 1 ∧ s = V ∧ l2 = false ∨ k = 2 ∧ s = ⟨#[]⟩ ∧ l3 = false ∨ k = 3 ∧ s = S3 ∧ l8 = false ∨ k = 4 ∧ s = S4 ∧ l16 = false) (hs : s.size ≤ maxLen) :
  ∃ w', (Instr.mapUpdate 106 (.map (some g)) (.int .i64 k) (.string s)).run Tryz.prog w = .ok () w' ∧ w.grownBy w' (some g) ∧ TMap w0 V S3 S4 g (l2 || k == 1) (l3 || k == 2) (l8 || k == 3) (l16 || k == 4) w' := by
 obtain ⟨h1, D, hD, hM, a2, a3, a8, a16⟩ := h;have hwf : (Lit.int .i64 k).wf = true := by rcases hk with h | h | h | h <;> (obtain ⟨rfl, _⟩ := h; decide)
 have hsz : l2.toNat + l3.toNat + l8.toNat + l16.toNat < maxLen := by
  have := Bool.toNat_le l2; have := Bool.toNat_le l3; have := Bool.toNat_le l8; have := Bool.toNat_le l16;unfold maxLen; omega
 obtain ⟨w', hrun, hown, hgr⟩ := hD.update (t := 106) (e := 9) (key := .int .i64 k) (val := .string s) (kl := k64 k) yjm Tryz.underlying106 hsz (keyOf_int_mk Tryz.underlying3 hwf) (plainElem_string Tryz.underlying9 hs);refine ⟨w', hrun, hgr, h1, D.put (k64 k) (litS s), ?_, hM.put _ _, ?_, ?_, ?_, ?_⟩
 ·have e : (l2 || k == 1).toNat + (l3 || k == 2).toNat + (l8 || k == 3).toNat + (l16 || k == 4).toNat = l2.toNat + l3.toNat + l8.toNat + l16.toNat + 1 := by
   rcases hk with ⟨rfl, _, rfl⟩ | ⟨rfl, _, rfl⟩ | ⟨rfl, _, rfl⟩ | ⟨rfl, _, rfl⟩ <;> simp <;> omega
  rw [e];exact hown
 ·intro hl;by_cases hk1 : k = 1
  ·subst hk1;rw [atKey_put_same hM (key_ok _)];rcases hk with ⟨_, rfl, _⟩ | ⟨h, _⟩ | ⟨h, _⟩ | ⟨h, _⟩ <;> first | rfl | omega
  ·rw [atKey_put_other (zxn (Ne.symm hk1))];exact a2 (by simpa [hk1] using hl)
 ·intro hl;by_cases hk1 : k = 2
  ·subst hk1;rw [atKey_put_same hM (key_ok _)];rcases hk with ⟨h, _⟩ | ⟨_, rfl, _⟩ | ⟨h, _⟩ | ⟨h, _⟩ <;> first | rfl | omega
  ·rw [atKey_put_other (zxn (Ne.symm hk1))];exact a3 (by simpa [hk1] using hl)
 ·intro hl;by_cases hk1 : k = 3
  ·subst hk1;rw [atKey_put_same hM (key_ok _)];rcases hk with ⟨h, _⟩ | ⟨h, _⟩ | ⟨_, rfl, _⟩ | ⟨h, _⟩ <;> first | rfl | omega
  ·rw [atKey_put_other (zxn (Ne.symm hk1))];exact a8 (by simpa [hk1] using hl)
 ·intro hl;by_cases hk1 : k = 4
  ·subst hk1;rw [atKey_put_same hM (key_ok _)];rcases hk with ⟨h, _⟩ | ⟨h, _⟩ | ⟨h, _⟩ | ⟨_, rfl, _⟩ <;> first | rfl | omega
  ·rw [atKey_put_other (zxn (Ne.symm hk1))];exact a16 (by simpa [hk1] using hl)
theorem TMap.look {w0 w : World} {V S3 S4 : ByteArray} {g : Nat} (h : TMap w0 V S3 S4 g true true true true w) (k : Int) (s : ByteArray) (hk : k = 1 ∧ s = V ∨ k = 2 ∧ s = ⟨#[]⟩ ∨ k = 3 ∧ s = S3 ∨ k = 4 ∧ s = S4) :
  (Instr.lookup 106 (.map (some g)) (.int .i64 k) false).run Tryz.prog w = .ok (.string s) w := by
 obtain ⟨h1, D, hD, hM, a2, a3, a8, a16⟩ := h;have hwf : (Lit.int .i64 k).wf = true := by rcases hk with h | h | h | h <;> (obtain ⟨rfl, _⟩ := h; decide)
 obtain ⟨v, ps, hrun, hv⟩ := hD.lookup (t := 106) (e := 9) (key := .int .i64 k) (kl := k64 k) yjm Tryz.underlying106 (ykm w) (plainElem_string Tryz.underlying9 (show (⟨#[]⟩ : ByteArray).size ≤ maxLen from Nat.zero_le _)) (keyOf_int_mk Tryz.underlying3 hwf);have e : D.atKey (k64 k) (litS ⟨#[]⟩) = litS s := by
  rcases hk with ⟨rfl, rfl⟩ | ⟨rfl, rfl⟩ | ⟨rfl, rfl⟩ | ⟨rfl, rfl⟩
  ·exact a2 rfl
  ·exact a3 rfl
  ·exact a8 rfl
  ·exact a16 rfl
 have hv' : plainElem Tryz.prog 9 v = some (litS s, ps) := by rw [← e]; exact hv
 obtain ⟨u, rfl, hz, _⟩ := plainElem_string_inv Tryz.underlying9 hv';have hz1 : (DataW.lit (.string s.data.toList) : DataW Unit) = .lit (.string u.data.toList) := congrArg Prod.fst hz;simp only [DataW.lit.injEq, Lit.string.injEq] at hz1;have : s = u := by
  apply ByteArray.ext;apply Array.ext';exact hz1
 subst this;exact hrun
def tailV (B : Nat) (V S3 S4 R : ByteArray) (z m : Nat) (c f : Int) (g : Nat) : Nat → Value
 | 0 => .map (some g)
 | 1 => .string V
 | 4 => .pointer (some ⟨B, 5, none⟩)
 | 5 => .int .i64 f
 | 6 => .int .u64 (z : Int)
 | 7 => .string S3
 | 9 => .pointer (some ⟨B, 5, none⟩)
 | 10 => .int .i64 f
 | 11 => .int .i64 (m : Int)
 | 12 => .int .u64 (m : Int)
 | 13 => .string S4
 | 14 => .string V
 | 15 => .string (S4 ++ V)
 | 17 => .map (some g)
 | 18 => .pointer (some ⟨B, 2, none⟩)
 | 19 => .int .i64 c
 | 20 => .string R
 | 21 => .string R
 | 22 => .int .i64 0
 | _ => undef
set_option maxHeartbeats 4000000 in
set_option maxRecDepth 100000 in
theorem yad (a b c f : Int) (d e : ByteArray) (w : World) (H0 : Hid (zao (a, b, c, d, e, f) = 0)) :
  Calls Tryz.prog 33 #[wrV a b c d e f] w fun r w' => r = .returned (.tuple #[.string (zfn (a, b, c, d, e, f)), .int .i64 0]) ∧ Below w.heap.size w w' := by
 obtain ⟨hc, _, he, _⟩ := znx H0.out;obtain ⟨f0, f1, _⟩ := zzs H0.out;have hW := WrAt.new w a b c d e f;have b0 := zaa w (wrO a b c d e f);have hm : e.size ≤ maxLen := by unfold maxLen; omega
 have hs := Lib.hid (zih he);have HW := hW;obtain ⟨c0, c1, c2, c3, c4, c5⟩ := hW;go_enter Tryz.func33, Tryz.ntmps33;go_wp2_with fail;refine (zdj (a, b, c, d, e, f) _).mono ?_;rintro r w1 ⟨rfl, hb1⟩;rw [H0.out];have b1 := b0.trans (hb1.mono b0.size);obtain ⟨k0, k1, k2, k3, k4, k5⟩ := HW.below hb1;go_wp2_with fail;refine (ztb e _ hm).mono ?_;rintro r w2 ⟨rfl, hb2⟩;rw [hs.out];have b2 := b1.trans (hb2.mono b1.size);have k5 := (hb2.cell (cell_lt k5)).trans k5;have k2 := (hb2.cell (cell_lt k2)).trans k2;have hsb := b2.size;clear k0 k1 k3 k4 c0 c1 c2 c3 c4 c5 HW;have hl2 := zae (n := e.size) (by omega);obtain ⟨V, hV⟩ : ∃ V, V = strOf (vput e.size) ++ e := ⟨_, rfl⟩;have hVs : V.size ≤ 400 := by rw [hV, ByteArray.size_append, zas]; omega
 obtain ⟨z, hz⟩ : ∃ z, z = zigN f := ⟨_, rfl⟩;have hzl : z < 18446744073709551616 := by rw [hz]; unfold zigN; split <;> omega
 have hzi : Zg.zig f = (z : Int) := by rw [hz]; exact Zg.yjn f (by omega)
 obtain ⟨m, hmm⟩ : ∃ m, m = f.toNat := ⟨_, rfl⟩;have hm1 : m ≤ 1125899906842624 := by omega
 have hmx : max 0 f = (m : Int) := by omega
 have hl3 := zae (n := z) hzl;have hl4 := zae (n := m) (by omega);obtain ⟨S3, hS3⟩ : ∃ S, S = (⟨(vput z).toArray⟩ : ByteArray) := ⟨_, rfl⟩;obtain ⟨S4, hS4⟩ : ∃ S, S = (⟨(vput m).toArray⟩ : ByteArray) := ⟨_, rfl⟩;have hs3 : S3.size ≤ 10 := by rw [hS3]; exact hl3
 have hs4 : S4.size ≤ 10 := by rw [hS4]; exact hl4
 obtain ⟨R, hR⟩ : ∃ R, R = zfn (a, b, c, d, e, f) := ⟨_, rfl⟩;have hRR : c = 1 ∧ R = V ∨ c = 2 ∧ R = ⟨#[]⟩ ∨ c = 3 ∧ R = S3 ∨ c = 4 ∧ R = S4 ++ V := by
  rcases hc with h | h | h | h <;> subst h
  ·exact .inl ⟨rfl, by rw [hR, hV]; rfl⟩
  ·exact .inr (.inl ⟨rfl, by rw [hR]; rfl⟩)
  ·exact .inr (.inr (.inl ⟨rfl, by rw [hR, hS3, hz]; rfl⟩))
  ·exact .inr (.inr (.inr ⟨rfl, by rw [hR, hS4, hV, hmm]; rfl⟩))
 have hS4V : (S4 ++ V).size ≤ 410 := by rw [ByteArray.size_append]; omega
 rw [← hV];have hVV := Lib.hid hV;have hRR2 := Lib.hid hR;clear hV hR hz hmm hc;go_wp2_with fail;refine Flow.ziu (by kernel_rfl) (by kernel_rfl) (by kernel_rfl) 35 rfl (by kernel_rfl) (tailV w.heap.size V S3 S4 R z m c f) (TInv w2 V S3 (S4 ++ V)) 0 ⟨(Below.refl _ _).drew, fun h => (by cases h), fun _ => ⟨rfl, rfl, rfl, rfl, rfl⟩, fun h => (by cases h)⟩ ⟨?_, ?_, ?_, ?_, ?_, ?_, ?_, ?_, ?_, ?_, ?_, ?_, ?_, ?_, ?_, ?_, ?_, ?_, ?_, ?_, ?_, ?_, ?_, trivial⟩ ?_
 ·intro g L w' K ρ hc0 hf0 hF hO hi hd hC hK;simp [go_sem, hc0, hf0, run_makeMap];have hC' : TI w2 V S3 (S4 ++ V) g false (L 2) (L 3) (L 8) (L 16) (L 17) w' := by have h := hC; unfold TInv at h; rw [hi] at h; exact h
  refine hK w'.heap.size _ hC'.made ?_;intro j hj;have h17 := (hC'.no rfl).2.2.2.2;unfold tailV;split <;> first | rfl | (rw [hi] at hj; cases hj) | (rw [h17] at hj; cases hj)
 ·intro g L w' K ρ hc0 hf0 hF hO hi hd hC hK;have e5 : ρ (.tmp 5) = .string V := hO 5 (by kernel_rfl);simp [go_sem, hc0, hf0, e5];exact hK g w' hC (fun _ _ => rfl)
 ·intro g L w' K ρ hc0 hf0 hF hO hi hd hC hK;have d0 : L 0 = true := hd ⟨0, .data⟩ (by simp) rfl;have d1 : L 1 = true := hd ⟨1, .data⟩ (by simp) rfl;have e18 : ρ (.tmp 18) = .map (some g) := hF 18 0 (by kernel_rfl) d0;have e19 : ρ (.tmp 19) = .string V := hF 19 1 (by kernel_rfl) d1;obtain ⟨wn, hrun, hgr, hT⟩ := (hC.map d0).put 1 V (.inl ⟨rfl, rfl, hi⟩) (by unfold maxLen; omega);simp [go_sem, hc0, hf0, e18, e19, hrun];refine hK g wn ⟨hC.bel.grown hgr hC.bel.size (fun k hk => by injection hk with hk; subst hk; exact (hC.map d0).base), fun _ => ?_, fun h => ?_, fun h => ?_⟩ (fun _ _ => rfl)
  ·have h := hT; simp [hi] at h ⊢; exact h
  ·have h' : L 0 = false := h; rw [d0] at h'; cases h'
  ·have h' := hC.all h; simp [h']
 ·intro g L w' K ρ hc0 hf0 hF hO hi hd hC hK;have d0 : L 0 = true := hd ⟨0, .data⟩ (by simp) rfl;have e18 : ρ (.tmp 18) = .map (some g) := hF 18 0 (by kernel_rfl) d0;obtain ⟨wn, hrun, hgr, hT⟩ := (hC.map d0).put 2 ⟨#[]⟩ (.inr (.inl ⟨rfl, rfl, hi⟩)) (Nat.zero_le _);simp [go_sem, hc0, hf0, e18, hrun];refine hK g wn ⟨hC.bel.grown hgr hC.bel.size (fun k hk => by injection hk with hk; subst hk; exact (hC.map d0).base), fun _ => ?_, fun h => ?_, fun h => ?_⟩ (fun _ _ => rfl)
  ·have h := hT; simp [hi] at h ⊢; exact h
  ·have h' : L 0 = false := h; rw [d0] at h'; cases h'
  ·have h' := hC.all h; simp [h']
 ·intro g L w' K ρ hc0 hf0 hF hO hi hd hC hK;have e1 : ρ (.tmp 1) = .pointer (some ⟨w.heap.size, 0, none⟩) := hO 1 (by kernel_rfl);simp [go_sem, hc0, hf0, e1];exact hK g w' hC (fun _ _ => rfl)
 ·intro g L w' K ρ hc0 hf0 hF hO hi hd hC hK;have d4 : L 4 = true := hd ⟨4, .data⟩ (by simp) rfl;have e20 : ρ (.tmp 20) = .pointer (some ⟨w.heap.size, 5, none⟩) := hF 20 4 (by kernel_rfl) d4;have q := (hC.bel.cell (cell_lt k5)).trans k5;simp [go_sem, hc0, hf0, e20, q];exact hK g w' hC (fun _ _ => rfl)
 ·intro g L w' K ρ hc0 hf0 hF hO hi hd hC hK;have d5 : L 5 = true := hd ⟨5, .data⟩ (by simp) rfl;have e21 : ρ (.tmp 21) = .int .i64 f := hF 21 5 (by kernel_rfl) d5;simp [go_sem, hc0, hf0, e21];refine (Zg.yga f w' (by omega) (by omega)).mono ?_;rintro r wn ⟨rfl, rfl⟩;rw [hzi];exact ⟨_, rfl, hK g w' hC (fun _ _ => rfl)⟩
 ·intro g L w' K ρ hc0 hf0 hF hO hi hd hC hK;have d6 : L 6 = true := hd ⟨6, .data⟩ (by simp) rfl;have e22 : ρ (.tmp 22) = .int .u64 (z : Int) := hF 22 6 (by kernel_rfl) d6;simp [go_sem, hc0, hf0, e22];refine (zbw z w' (by omega)).mono ?_;rintro r wn ⟨rfl, hbn⟩;rw [← hS3];exact ⟨_, rfl, hK g wn (hC.grow hbn) (fun _ _ => rfl)⟩
 ·intro g L w' K ρ hc0 hf0 hF hO hi hd hC hK;have d0 : L 0 = true := hd ⟨0, .data⟩ (by simp) rfl;have d7 : L 7 = true := hd ⟨7, .data⟩ (by simp) rfl;have e18 : ρ (.tmp 18) = .map (some g) := hF 18 0 (by kernel_rfl) d0;have e23 : ρ (.tmp 23) = .string S3 := hF 23 7 (by kernel_rfl) d7;obtain ⟨wn, hrun, hgr, hT⟩ := (hC.map d0).put 3 S3 (.inr (.inr (.inl ⟨rfl, rfl, hi⟩))) (by unfold maxLen; omega);simp [go_sem, hc0, hf0, e18, e23, hrun];refine hK g wn ⟨hC.bel.grown hgr hC.bel.size (fun k hk => by injection hk with hk; subst hk; exact (hC.map d0).base), fun _ => ?_, fun h => ?_, fun h => ?_⟩ (fun _ _ => rfl)
  ·have h := hT; simp [hi] at h ⊢; exact h
  ·have h' : L 0 = false := h; rw [d0] at h'; cases h'
  ·have h' := hC.all h; simp [h']
 ·intro g L w' K ρ hc0 hf0 hF hO hi hd hC hK;have e1 : ρ (.tmp 1) = .pointer (some ⟨w.heap.size, 0, none⟩) := hO 1 (by kernel_rfl);simp [go_sem, hc0, hf0, e1];exact hK g w' hC (fun _ _ => rfl)
 ·intro g L w' K ρ hc0 hf0 hF hO hi hd hC hK;have d9 : L 9 = true := hd ⟨9, .data⟩ (by simp) rfl;have e24 : ρ (.tmp 24) = .pointer (some ⟨w.heap.size, 5, none⟩) := hF 24 9 (by kernel_rfl) d9;have q := (hC.bel.cell (cell_lt k5)).trans k5;simp [go_sem, hc0, hf0, e24, q];exact hK g w' hC (fun _ _ => rfl)
 ·intro g L w' K ρ hc0 hf0 hF hO hi hd hC hK;have d10 : L 10 = true := hd ⟨10, .data⟩ (by simp) rfl;have e25 : ρ (.tmp 25) = .int .i64 f := hF 25 10 (by kernel_rfl) d10;simp [go_sem, hc0, hf0, e25, hmx];exact hK g w' hC (fun _ _ => rfl)
 ·intro g L w' K ρ hc0 hf0 hF hO hi hd hC hK;have d11 : L 11 = true := hd ⟨11, .data⟩ (by simp) rfl;have e26 : ρ (.tmp 26) = .int .i64 (m : Int) := hF 26 11 (by kernel_rfl) d11;have q : IntKind.u64.wrap (m : Int) = (m : Int) := by simp [IntKind.wrap, IntKind.bits, IntKind.signed]; omega
  simp [go_sem, hc0, hf0, e26, q];exact hK g w' hC (fun _ _ => rfl)
 ·intro g L w' K ρ hc0 hf0 hF hO hi hd hC hK;have d12 : L 12 = true := hd ⟨12, .data⟩ (by simp) rfl;have e27 : ρ (.tmp 27) = .int .u64 (m : Int) := hF 27 12 (by kernel_rfl) d12;simp [go_sem, hc0, hf0, e27];refine (zbw m w' (by omega)).mono ?_;rintro r wn ⟨rfl, hbn⟩;rw [← hS4];exact ⟨_, rfl, hK g wn (hC.grow hbn) (fun _ _ => rfl)⟩
 ·intro g L w' K ρ hc0 hf0 hF hO hi hd hC hK;have e5 : ρ (.tmp 5) = .string V := hO 5 (by kernel_rfl);simp [go_sem, hc0, hf0, e5];exact hK g w' hC (fun _ _ => rfl)
 ·intro g L w' K ρ hc0 hf0 hF hO hi hd hC hK;have d13 : L 13 = true := hd ⟨13, .data⟩ (by simp) rfl;have d14 : L 14 = true := hd ⟨14, .data⟩ (by simp) rfl;have e28 : ρ (.tmp 28) = .string S4 := hF 28 13 (by kernel_rfl) d13;have e29 : ρ (.tmp 29) = .string V := hF 29 14 (by kernel_rfl) d14;have q : ¬ 9223372036854775807 < S4.size + V.size := by omega
  simp [go_sem, hc0, hf0, e28, e29, q];exact hK g w' hC (fun _ _ => rfl)
 ·intro g L w' K ρ hc0 hf0 hF hO hi hd hC hK;have d0 : L 0 = true := hd ⟨0, .data⟩ (by simp) rfl;have d15 : L 15 = true := hd ⟨15, .data⟩ (by simp) rfl;have e18 : ρ (.tmp 18) = .map (some g) := hF 18 0 (by kernel_rfl) d0;have e30 : ρ (.tmp 30) = .string (S4 ++ V) := hF 30 15 (by kernel_rfl) d15;obtain ⟨wn, hrun, hgr, hT⟩ := (hC.map d0).put 4 (S4 ++ V) (.inr (.inr (.inr ⟨rfl, rfl, hi⟩))) (by unfold maxLen; omega);simp [go_sem, hc0, hf0, e18, e30, hrun];refine hK g wn ⟨hC.bel.grown hgr hC.bel.size (fun k hk => by injection hk with hk; subst hk; exact (hC.map d0).base), fun _ => ?_, fun h => ?_, fun h => ?_⟩ (fun _ _ => rfl)
  ·have h := hT; simp [hi] at h ⊢; exact h
  ·have h' : L 0 = false := h; rw [d0] at h'; cases h'
  ·have h' := hC.all h; simp [h']
 ·intro g L w' K ρ hc0 hf0 hF hO hi hd hC hK;have d0 : L 0 = true := hd ⟨0, .data⟩ (by simp) rfl;have d2 : L 2 = true := hd ⟨2, .data⟩ (by simp) rfl;have d3 : L 3 = true := hd ⟨3, .data⟩ (by simp) rfl;have d8 : L 8 = true := hd ⟨8, .data⟩ (by simp) rfl;have d16 : L 16 = true := hd ⟨16, .data⟩ (by simp) rfl;have e18 : ρ (.tmp 18) = .map (some g) := hF 18 0 (by kernel_rfl) d0;simp [go_sem, hc0, hf0, e18];exact hK g w' ⟨hC.bel, hC.map, fun h => (by have h' : L 0 = false := h; rw [d0] at h'; cases h'), fun _ => ⟨d2, d3, d8, d16⟩⟩ (fun _ _ => rfl)
 ·intro g L w' K ρ hc0 hf0 hF hO hi hd hC hK;have e1 : ρ (.tmp 1) = .pointer (some ⟨w.heap.size, 0, none⟩) := hO 1 (by kernel_rfl);simp [go_sem, hc0, hf0, e1];exact hK g w' hC (fun _ _ => rfl)
 ·intro g L w' K ρ hc0 hf0 hF hO hi hd hC hK;have d18 : L 18 = true := hd ⟨18, .data⟩ (by simp) rfl;have e32 : ρ (.tmp 32) = .pointer (some ⟨w.heap.size, 2, none⟩) := hF 32 18 (by kernel_rfl) d18;have q := (hC.bel.cell (cell_lt k2)).trans k2;simp [go_sem, hc0, hf0, e32, q];exact hK g w' hC (fun _ _ => rfl)
 ·intro g L w' K ρ hc0 hf0 hF hO hi hd hC hK;have d17 : L 17 = true := hd ⟨17, .data⟩ (by simp) rfl;have d19 : L 19 = true := hd ⟨19, .data⟩ (by simp) rfl;have e31 : ρ (.tmp 31) = .map (some g) := hF 31 17 (by kernel_rfl) d17;have e33 : ρ (.tmp 33) = .int .i64 c := hF 33 19 (by kernel_rfl) d19;obtain ⟨a2, a3, a8, a16⟩ := hC.all d17;have d0 : L 0 = true := by rcases h0 : L 0 with _ | _; (have := (hC.no h0).2.2.2.2; rw [d17] at this; cases this); rfl
  have hM := hC.map d0;rw [a2, a3, a8, a16] at hM;have hrun := hM.look c R hRR;simp [go_sem, hc0, hf0, e31, e33, hrun];exact hK g w' hC (fun _ _ => rfl)
 ·intro g L w' K ρ hc0 hf0 hF hO hi hd hC hK;have d20 : L 20 = true := hd ⟨20, .data⟩ (by simp) rfl;have e34 : ρ (.tmp 34) = .string R := hF 34 20 (by kernel_rfl) d20;simp [go_sem, hc0, hf0, e34];exact hK g w' hC (fun _ _ => rfl)
 ·intro g L w' K ρ hc0 hf0 hF hO hi hd hC hK;simp [go_sem, hc0, hf0];exact hK g w' hC (fun _ _ => rfl)
 ·intro g L w' hL hC;refine Flow.yko (B := ⟨#[wrV a b c d e f, .pointer (some ⟨w.heap.size, 0, none⟩), .string R, .int .i64 0, .int .i64 0, .string V, .int .i64 0, .agg #[.int .i64 a, .int .i64 b, .int .i64 c, .string d, .string e, .int .i64 f], .int .i64 0, .int .i64 0, .bool false, undef, .tuple #[.string V, .int .i64 0], .pointer (some ⟨w.heap.size, 4, none⟩), .string e, .tuple #[.string V, .int .i64 0], .string V, .int .i64 0, .map (some g), .string V, .pointer (some ⟨w.heap.size, 5, none⟩), .int .i64 f, .int .u64 (z : Int), .string S3, .pointer (some ⟨w.heap.size, 5, none⟩), .int .i64 f, .int .i64 (m : Int), .int .u64 (m : Int), .string S4, .string V, .string (S4 ++ V), .map (some g), .pointer (some ⟨w.heap.size, 2, none⟩), .int .i64 c, .string R], []⟩) ?_ rfl;have bf := b2.trans (hC.bel.mono b2.size);go_wp2;go_ret2;exact ⟨by rw [← hRR2.out]; rfl, bf⟩
set_option maxHeartbeats 2000000 in
set_option maxRecDepth 100000 in
theorem ydb (x : Wr) (w : World) :
  Calls Tryz.prog 33 #[wrV x.1 x.2.1 x.2.2.1 x.2.2.2.1 x.2.2.2.2.1 x.2.2.2.2.2] w fun r w' => r = .returned (.tuple #[.string (zlm x).1, .int .i64 (zlm x).2]) ∧ Below w.heap.size w w' := by
 obtain ⟨a, b, c, d, e, f⟩ := x;by_cases hw : zao (a, b, c, d, e, f) = 0
 ·rw [zin hw];exact yad a b c f d e w (Lib.hid hw)
 ·have hr := Lib.hid (zsm hw);have hW := WrAt.new w a b c d e f;have b0 := zaa w (wrO a b c d e f);have e7 : (zao (a, b, c, d, e, f) != 0) = true := by simpa using hw
  clear hw;obtain ⟨c0, c1, c2, c3, c4, c5⟩ := hW;go_enter Tryz.func33, Tryz.ntmps33;go_wp2_with fail;refine (zdj (a, b, c, d, e, f) _).mono ?_;rintro r w1 ⟨rfl, hb1⟩;go_wp2;go_ret2;exact ⟨by rw [hr.out]; rfl, b0.trans (hb1.mono b0.size)⟩
end Go.Proofs.YtkejlnjnoiidnaaGreatDoor
end

section
namespace Go.Proofs.YtkejlnjnoiidnaaGreatDoor.Keys
open Go.RowKit Go.Maps
def lastTo (T : List ByteArray) (s : ByteArray) (j : Nat) : Int := if s ∈ T.take j then (T.idxOf s : Int) else -1
theorem yhe (T : List ByteArray) (s : ByteArray) : lastTo T s 0 = -1 := by simp [lastTo]
theorem zzm {T : List ByteArray} {s : ByteArray} {j : Nat} (hT : T.Nodup) (h : T[j]? = some s) : lastTo T s (j + 1) = j := by
 have hj : j < T.length := (List.getElem?_eq_some_iff.1 h).1;have hs : T[j] = s := (List.getElem?_eq_some_iff.1 h).2;have hm : s ∈ T.take (j + 1) := by rw [List.take_succ_eq_append_getElem hj, hs]; simp
 unfold lastTo;rw [if_pos hm, ← hs];have := hT.idxOf_getElem j hj;rw [this]
theorem zvz {T : List ByteArray} {s x : ByteArray} {j : Nat} (h : T[j]? = some x) (hx : ¬ x = s) : lastTo T s (j + 1) = lastTo T s j := by
 have hj : j < T.length := (List.getElem?_eq_some_iff.1 h).1;have hs : T[j] = x := (List.getElem?_eq_some_iff.1 h).2;unfold lastTo;have e : (s ∈ T.take (j + 1)) ↔ (s ∈ T.take j) := by
  rw [List.take_succ_eq_append_getElem hj, hs];simp;rintro rfl;exact absurd rfl hx
 simp only [e]
theorem ydw {T : List ByteArray} {s : ByteArray} (h : s ∈ T) : lastTo T s T.length = T.idxOf s := by unfold lastTo; rw [List.take_length, if_pos h]
theorem zyz {T : List ByteArray} {s : ByteArray} (h : ¬ s ∈ T) : lastTo T s T.length = -1 := by unfold lastTo; rw [List.take_length, if_neg h]
structure ycu (S I : TypeId) (B : Nat) (t : Tab) (v2 v3 : Value) (w : World) : Prop where
 tab : w.ownsRow B S 1 v2 t.1.length (strV t.1)
 at_ : w.ownsRow B I 1 v3 t.2.length (intV t.2)
theorem yli {S I : TypeId} {B : Nat} {t : Tab} {s : ByteArray} {u2 u3 v' : Value} {wr w1 : World} {o : Obj} (hne : I ≠ S)
  (hT : wr.ownsRow B S 1 u2 t.1.length (strV t.1)) (hA : wr.ownsRow B I 1 u3 t.2.length (intV t.2)) (hm : s ∈ t.1)
  (hA1 : w1.ownsRow B I 1 v' (t.2.length + 1) (intV t.2 ++ [.int .i64 (List.idxOf s t.1 : Int)])) (hg : (wr.alloc o).grownBy w1 u3.ownBlock) :
  ycu S I B (step t s) u2 v' w1 := by
 rw [zld hm];refine ⟨(hT.alloc o).kept hg (own_ne hT hA (Ne.symm hne)), ?_⟩;simpa [intV] using hA1
theorem yhd {S I : TypeId} {B : Nat} {t : Tab} {s : ByteArray} {u2 u3 v2 v3 : Value} {w1 w2 w3 : World} {o o' : Obj} (hne : I ≠ S)
  (hT1 : w1.ownsRow B S 1 u2 t.1.length (strV t.1)) (hA1 : w1.ownsRow B I 1 u3 t.2.length (intV t.2)) (hm : ¬ s ∈ t.1)
  (hT2 : w2.ownsRow B S 1 v2 (t.1.length + 1) (strV t.1 ++ [.string s])) (hg2 : (w1.alloc o).grownBy w2 u2.ownBlock)
  (hA3 : w3.ownsRow B I 1 v3 (t.2.length + 1) (intV t.2 ++ [.int .i64 (t.1.length : Int)])) (hg3 : (w2.alloc o').grownBy w3 u3.ownBlock) :
  ycu S I B (step t s) v2 v3 w3 := by
 have hA2 : w2.ownsRow B I 1 u3 t.2.length (intV t.2) := (hA1.alloc o).kept hg2 (own_ne hA1 hT1 hne);rw [zka hm];refine ⟨?_, ?_⟩
 ·have := (hT2.alloc o').kept hg3 (own_ne hT2 hA2 (Ne.symm hne));simpa [strV] using this
 ·simpa [intV] using hA3
theorem ygq {α : Type} (f : α → Value) (l : List α) : (l.flatMap fun x => [f x]) = l.map f := by induction l <;> simp_all
set_option maxRecDepth 100000 in
theorem zyy (n c : Nat) (A : Option Addr) (l : List ByteArray) (w : World) (h : Strs w A n l) (hn : n ≤ 1000) :
  Calls Tryz.prog 86 #[.slice A n c] w fun e w' => ∃ v2 v3, e = .returned (.tuple #[v2, v3]) ∧ w'.ownsRow w.heap.size 9 1 v2 (tab l).1.length (strV (tab l).1) ∧ w'.ownsRow w.heap.size 3 1 v3 (tab l).2.length (intV (tab l).2) ∧ Below w.heap.size w w' := by
 obtain ⟨i0, hi, hz0, hz1, hz2⟩ := info_parts zfy;obtain ⟨j0, hj, hy0, hy1, hy2⟩ := info_parts yao;have hl := Lib.hid (zlf Value.string h);go_enter Tryz.func86, Tryz.ntmps86;go_wp2;go_loopw [4, 5, 7, 8, 9, 12] (fun v2 v3 _ _ _ i wr => ∃ k : Nat, k ≤ n ∧ i = .int .i64 k ∧ ycu 9 3 w.heap.size (tab (l.take k)) v2 v3 wr ∧ Below w.heap.size w wr) (fun _ _ _ _ _ i _ => n - (intOf i).toNat)
 case atStart => exact ⟨0, by omega, rfl, ⟨World.ownsRow_nil _ _ _ _, World.ownsRow_nil _ _ _ _⟩, Below.refl _ _⟩
 case round =>
  obtain ⟨k, hk, rfl, hR, hbel⟩ := hrel;obtain ⟨hT, hA⟩ := hR;by_cases hlt : k < n
  ·obtain ⟨b, o, s, rfl, hb, hx, hc⟩ := zfj Value.string h hl.out hlt;have hc' := (hbel.cell (p := ⟨b, o + k, none⟩) hb).trans hc;clear hc;have hkn : (k : Int) < (n : Int) := by omega
   have htk := Lib.hid (zwr l k s hx);have hlen := Lib.hid (zkl (l.take k));have b1 : (tab (l.take k)).1.length ≤ 1000 := by have := hlen.out.1; simp at this; omega
   have b2 : (tab (l.take k)).2.length ≤ 1000 := by have := hlen.out.2.1; simp at this; omega
   have hB := hbel.size;generalize htt : tab (l.take k) = t at *;have Htt := Lib.hid htt;clear htt;have hX := Lib.hid hx;clear hx;obtain ⟨A2, c2, rfl⟩ := zah hT;go_upto_block 2 with fail
   go_cut [8] (fun v wx => v = .int .i64 (lastTo t.1 s t.1.length) ∧ wr = wx)
   case first =>
    go_wp2_with fail;go_loop [8, 9, 18] (fun v _ i => ∃ j : Nat, j ≤ t.1.length ∧ i = .int .i64 j ∧ v = .int .i64 (lastTo t.1 s j)) (fun _ _ i => t.1.length - (intOf i).toNat)
    case atStart => exact ⟨0, by omega, rfl, valI (yhe _ _).symm⟩
    case round =>
     obtain ⟨j, hj', rfl, rfl⟩ := hrel;by_cases hlt2 : j < t.1.length
     ·have hSl := Sl.zbf hT;rw [show strV t.1 = (t.1.flatMap fun x => [Value.string x]) from (ygq _ _).symm] at hSl;obtain ⟨b', o', x, rfl, hb', hx, hcx⟩ := zfj Value.string hSl rfl hlt2;clear hSl;by_cases hxs : x = s
      ·subst hxs;have hh := Lib.hid (zzm hlen.out.2.2.1 hx);clear hx;go_wp2_with fail;go_round
       case rel => exact ⟨j + 1, by omega, by go_num, valI hh.out.symm⟩
       case measure => simp [intOf]; omega
      ·have hh := Lib.hid (zvz hx hxs);clear hx;have hne := zdt hxs;have hne' : (x.toList == s.toList) = false := by simpa using hne
       go_wp2_with fail;go_round
       case rel => exact ⟨j + 1, by omega, by go_num, valI hh.out.symm⟩
       case measure => simp [intOf]; omega
     ·obtain rfl : j = t.1.length := by omega
      go_wp2_with fail;go_meet;exact ⟨rfl, rfl⟩
   case rest =>
    obtain ⟨rfl, rfl⟩ := hcut;by_cases hm : s ∈ t.1
    ·have hlast := ydw hm;have hst := Lib.hid (zld hm);rw [hlast];clear hlast;go_wp2_with (first
      | (at_builtin; refine wpList_append_own _ rfl (.tmp 37) (.tmp 39) 117 rfl w.heap.size 3 j0 (.int .i64 0) 1 8 Tryz.underlying117 hj hy0 hy1 hy2 rfl (by decide) u5 t.2.length (intV t.2) rfl (hA.alloc _) ⟨wr.heap.size, 0, none⟩ 1 1 [.int .i64 (List.idxOf s t.1 : Int)] rfl rfl (cell_one_new _ _ _) (ints_oneCell .i64 [(List.idxOf s t.1 : Int)]) (by unfold maxLen; omega) (by omega) (by simp; omega) ?_; intro v' w1 hA1 hg1 _))
     go_roundw
     case rel => exact ⟨k + 1, by omega, by go_num, by rw [htk.out]; exact yli (by decide) hT hA hm hA1 hg1, zaj (hbel.alloc hB _) hg1 (by simp; omega) (hA.alloc _)⟩
     case measure => simp [intOf]; omega
    ·have hlast := zyz hm;rw [hlast];clear hlast;go_wp2_with (first
      | (at_builtin; refine wpList_append_own _ rfl (.tmp 33) (.tmp 35) 116 rfl w.heap.size 9 i0 (.string ⟨#[]⟩) 1 16 Tryz.underlying116 hi hz0 hz1 hz2 rfl (by decide) _ t.1.length (strV t.1) rfl (hT.alloc _) ⟨wr.heap.size, 0, none⟩ 1 1 [.string s] rfl rfl (cell_one_new _ _ _) (by intro u hu; simp at hu; subst hu; rfl) (by unfold maxLen; omega) (by omega) (by simp; omega) ?_; intro v2' w2 hT2 hg2 _; have hA2 := (hA.alloc _).kept hg2 (own_ne hA hT (by decide)); have hb2 := zaj (hbel.alloc hB _) hg2 (by simp; omega) (hT.alloc _))
      | (at_builtin; refine wpList_append_own _ rfl (.tmp 37) (.tmp 39) 117 rfl w.heap.size 3 j0 (.int .i64 0) 1 8 Tryz.underlying117 hj hy0 hy1 hy2 rfl (by decide) u5 t.2.length (intV t.2) rfl (hA2.alloc _) ⟨w2.heap.size, 0, none⟩ 1 1 [.int .i64 (t.1.length : Int)] rfl rfl (cell_one_new _ _ _) (ints_oneCell .i64 [(t.1.length : Int)]) (by unfold maxLen; omega) (by omega) (by have := hb2.size; simp; omega) ?_; intro v3' w3 hA3 hg3 _; have hb3 := zaj (hb2.alloc hb2.size _) hg3 (by have := hb2.size; simp; omega) (hA2.alloc _)))
     go_roundw
     case rel => exact ⟨k + 1, by omega, by go_num, by rw [htk.out]; exact yhd (by decide) hT hA hm hT2 hg2 hA3 hg3, hb3⟩
     case measure => simp [intOf]; omega
  ·obtain rfl : k = n := by omega
   have htl : l.take k = l := List.take_of_length_le (by rw [hl.out]; exact Nat.le_refl _);rw [htl] at hT hA;go_wp2_with fail;go_ret2;exact ⟨_, _, rfl, hT, hA, hbel⟩
end Go.Proofs.YtkejlnjnoiidnaaGreatDoor.Keys
end

section
namespace Go.Proofs.YtkejlnjnoiidnaaGreatDoor
open Go.RowKit As
abbrev ylr (pb pw : Nat) : Value := .func (.func 89) #[] #[.pointer (some ⟨pb, 0, none⟩), .pointer (some ⟨pw, 0, none⟩)]
theorem yds (w : World) (n c k : Nat) (A : Option Addr) (l : List Ent) (x r t : Int) (pb pw : Nat) (hl : Ents w w.heap.size A n l) (hb : w.cell? ⟨pb, 1, none⟩ = some (.slice A n c)) (hw : w.cell? ⟨pw, 1, none⟩ = some (.int .i64 x)) (hx : l[k]? = some (r, t)) :
  Calls Tryz.prog 89 #[.int .i64 k, .pointer (some ⟨pb, 0, none⟩), .pointer (some ⟨pw, 0, none⟩)] w fun e w' => e = .returned (.bool (decide (x ≤ r))) ∧ ∃ q, w' = w.drewN q := by
 have hk : k < n := by have := (List.getElem?_eq_some_iff.1 hx).1; have := hl.len; omega
 obtain ⟨b, o, r', t', rfl, _, hx', _, c0, _⟩ := hl.at_ hk;rw [hx] at hx';injection hx' with hx'
 injection hx' with e1 e2
 subst e1 e2;go_enter Tryz.func89, Tryz.ntmps89;go_wp2_with fail;go_quiet (fail)
 go_wp2;go_ret;exact ⟨rfl, nq, rfl⟩
set_option maxHeartbeats 1000000 in
theorem yac (w : World) (n c : Nat) (A : Option Addr) (l : List Ent) (x t : Int) (pb pw : Nat) (hl : Ents w w.heap.size A n l) (hn : n ≤ 16) (hb : w.cell? ⟨pb, 1, none⟩ = some (.slice A n c)) (hw : w.cell? ⟨pw, 1, none⟩ = some (.int .i64 x))
  (hm : (x, t) ∈ l) (hp : l.Pairwise (fun a b => a.1 < b.1)) :
  Calls Tryz.prog 88 #[.int .i64 n, ylr pb pw] w fun e w' => e = .returned (.int .i64 (placeOf l x : Int)) ∧ ∃ q, w' = w.drewN q := by
 have hlen := Lib.hid hl.len;have HM := Lib.hid hm;have HP := Lib.hid hp;clear hm hp;go_enter Tryz.func88, Tryz.ntmps88;go_wp2;go_loopw [5, 6, 7] (fun iv jv _ wr => ∃ lo hi : Nat, lo ≤ hi ∧ hi ≤ n ∧ iv = .int .i64 lo ∧ jv = .int .i64 hi ∧ Hid (∀ (j : Nat) (y : Ent), j < lo → l[j]? = some y → y.1 < x) ∧ Hid (∀ (j : Nat) (y : Ent), hi ≤ j → l[j]? = some y → x ≤ y.1) ∧ ∃ q, wr = w.drewN q) (fun iv jv _ _ => (intOf jv).toNat - (intOf iv).toNat)
 case atStart => exact ⟨0, n, Nat.zero_le _, Nat.le_refl _, rfl, rfl, Lib.hid (fun j y hj => by omega), Lib.hid (fun j y hj hy => by have := (List.getElem?_eq_some_iff.1 hy).1; have := hlen.out; omega), 0, rfl⟩
 case round =>
  obtain ⟨lo, hi, h1, h2, rfl, rfl, ha, hz, q, rfl⟩ := hrel;by_cases hlt : lo < hi
  ·have d0 : decide ((lo : Int) < (hi : Int)) = true := by simp; omega
   have d1 : decide (lo < hi) = true := by simpa using hlt
   obtain ⟨mid, hmid, m1, m2⟩ : ∃ mid : Nat, ((lo : Int) + (hi : Int)) / 2 = (mid : Int) ∧ lo ≤ mid ∧ mid < hi := ⟨(lo + hi) / 2, by omega, by omega, by omega⟩;have hml : mid < l.length := by have := hlen.out; omega
   obtain ⟨r, t', hx⟩ : ∃ r t', l[mid]? = some (r, t') := ⟨(l[mid]).1, (l[mid]).2, List.getElem?_eq_getElem hml⟩;have hX := Lib.hid hx;clear hx hml;by_cases hge : x ≤ r
   ·have b0 : decide (x ≤ r) = true := by simpa using hge
    have hz2 := Lib.hid (show ∀ (j : Nat) (y : Ent), mid ≤ j → l[j]? = some y → x ≤ y.1 by
     intro j y hj hy;rcases Nat.eq_or_lt_of_le hj with h | h
     ·subst h; rw [hX.out] at hy; injection hy with hy; subst hy; exact hge
     ·have hpp := HP.out;rw [List.pairwise_iff_getElem] at hpp;obtain ⟨k1, e1⟩ := List.getElem?_eq_some_iff.1 hX.out;obtain ⟨k2, e2⟩ := List.getElem?_eq_some_iff.1 hy;have := hpp mid j k1 k2 h;rw [e1, e2] at this;simp only at this;omega)
    clear hge;go_wp2_with fail;refine (yds (w.drewN q) n c mid A l x r t' pb pw hl hb hw hX.out).mono ?_;rintro e w' ⟨rfl, q2, rfl⟩;rw [b0];go_wp2;go_roundw
    case rel => exact ⟨lo, mid, m1, by omega, rfl, rfl, ha, hz2, q + q2, by first | rfl | rw [World.drewN_drewN]⟩
    case measure => simp [intOf]; omega
   ·have b0 : decide (x ≤ r) = false := by simpa using hge
    have ha2 := Lib.hid (show ∀ (j : Nat) (y : Ent), j < mid + 1 → l[j]? = some y → y.1 < x by
     intro j y hj hy;rcases Nat.eq_or_lt_of_le (Nat.le_of_lt_succ hj) with h | h
     ·subst h; rw [hX.out] at hy; injection hy with hy; subst hy; simp only; omega
     ·have hpp := HP.out;rw [List.pairwise_iff_getElem] at hpp;obtain ⟨k1, e1⟩ := List.getElem?_eq_some_iff.1 hX.out;obtain ⟨k2, e2⟩ := List.getElem?_eq_some_iff.1 hy;have := hpp j mid k2 k1 h;rw [e1, e2] at this;simp only at this;omega)
    clear hge;go_wp2_with fail;refine (yds (w.drewN q) n c mid A l x r t' pb pw hl hb hw hX.out).mono ?_;rintro e w' ⟨rfl, q2, rfl⟩;rw [b0];go_wp2;go_roundw
    case rel => exact ⟨mid + 1, hi, by omega, h2, by go_num, rfl, ha2, hz, q + q2, by first | rfl | rw [World.drewN_drewN]⟩
    case measure => simp [intOf]; omega
  ·obtain rfl : lo = hi := by omega
   have hv := Lib.hid (zsi HM.out HP.out ha.out hz.out);go_wp2_with fail;go_ret;exact ⟨retI (by rw [hv.out]), q, rfl⟩
end Go.Proofs.YtkejlnjnoiidnaaGreatDoor
end
