/- lz.Read says what lread says. Printed by gen_lzread.py out of lzread.src. -/
import Derived.Test.YtkejlnjnoiidnaaGreatDoorZ11
import Derived.Test.YtkejlnjnoiidnaaGreatDoorZ5
import Derived.Test.YtkejlnjnoiidnaaGreatDoorZ2
import Derived.Test.YtkejlnjnoiidnaaGreatDoorZ9
import Derived.Test.YtkejlnjnoiidnaaGreatDoorZ3
import Derived.Test.YtkejlnjnoiidnaaGreatDoorZ1
import Derived.Deep.RegionHeld3
import Derived.Deep.RegionWith
set_option linter.unusedSimpArgs false
set_option linter.unusedVariables false
section
namespace Go.Proofs.YtkejlnjnoiidnaaGreatDoor
open Go.RowKit As Tokens
theorem ymy : (Tryz.prog.info? 3).map (fun i => (i.zero, i.size, i.bytes)) = some (some (.int .i64 0), 1, 8) := by kernel_rfl
abbrev stV (l : List Int) : List Value := l.map (Value.int .i64)
theorem zxp {w : World} {base : Nat} {E : TypeId} {v : Value} {l : List Int} {x : Int} {n : Nat} (hn : l.length = n) (h : w.ownsRow base E 1 v (n + 1) (stV l ++ [.int .i64 x])) : w.ownsRow base E 1 v (l ++ [x]).length (stV (l ++ [x])) := by
 subst hn;simpa [stV] using h
theorem zjx {w : World} {base : Nat} {E : TypeId} {v : Value} {l : List Tok} {x : Tok} {n : Nat} (hn : l.length = n) (h : w.ownsRow base E 3 v (n + 1) (tokV l ++ zeq x)) : w.ownsRow base E 3 v (l ++ [x]).length (tokV (l ++ [x])) := by
 subst hn;simpa [tokV, List.flatMap_append] using h
def zfl (l : List Tok) : Prop := ∀ x ∈ l, zji x
theorem zfl.nil : zfl [] := fun _ h => by cases h
theorem zfl.own {l : List Tok} {t : ByteArray} (h : zfl l) (ht : t.size ≤ 1000000) : zfl (l ++ [(t, 0, 0)]) := by
 intro x hx;rcases List.mem_append.1 hx with hx | hx
 ·exact h x hx
 ·rw [List.mem_singleton.1 hx];exact ⟨by simp only; omega, by simp, by simp⟩
theorem zfl.rep {l : List Tok} {m n : Nat} (h : zfl l) (hm : (m : Int) ≤ 1023) (hn : n ≤ 63) : zfl (l ++ [(⟨#[]⟩, (m : Int) + 1, (n : Int) + 4)]) := by
 intro x hx;rcases List.mem_append.1 hx with hx | hx
 ·exact h x hx
 ·rw [List.mem_singleton.1 hx];exact ⟨Nat.zero_le _, by simp only; omega, by simp only; omega⟩
theorem and_one {n : Nat} (h : n < 18446744073709551616) : bits BinOp.and IntKind.u64 (n : Int) 1 = ((n % 2 : Nat) : Int) := by
 have := u64_and_nat n 1 h (by omega);rw [show ((1 : Nat) : Int) = 1 from rfl] at this;rw [this, Nat.and_one_is_mod]
theorem zff (e p : Int) (w : World) : Calls Tryz.prog 141 #[.int .i64 e, .int .i64 p] w fun r w' => r = .returned (.tuple #[.slice none 0 0, .iface 112 (.pointer (some ⟨w.heap.size, 0, none⟩))]) ∧ w' = w.alloc (.cells #[.int .i64 e, .int .i64 p] 114) := by
 go_enter Tryz.func141, Tryz.ntmps141;go_wp2;go_ret2;exact ⟨rfl, rfl⟩
theorem at_new (w : World) (e p : Int) (he : e ≠ 0) : zbo (w.alloc (.cells #[.int .i64 e, .int .i64 p] 114)) (.iface 112 (.pointer (some ⟨w.heap.size, 0, none⟩))) e p := by
 have T := Two.new w e p 114;exact .at_ _ 0 e p he T.c0 T.c1
theorem zgb {w w' : World} {base : Nat} {e : TypeId} {size n : Nat} {v : Value} {xs : List Value} (h : w.ownsRow base e size v n xs) (hb : Below w.heap.size w w') : w'.ownsRow base e size v n xs := by
 refine h.kept (row := none) ⟨hb.os, hb.tape, hb.output, hb.size, fun i hi _ => hb.block i hi⟩ ?_;cases v.ownBlock with
 | none => exact .inl rfl
 | some k => exact .inr (by simp)
theorem ylu {w : World} {v : Value} {e p : Int} (h : zbo w v e p) (hp : 0 ≤ p) : ∃ b o, v = .iface 112 (.pointer (some ⟨b, o, none⟩)) ∧ w.cell? ⟨b, o, none⟩ = some (.int .i64 e) ∧ w.cell? ⟨b, o + 1, none⟩ = some (.int .i64 p) := by
 cases h with
 | none => omega
 | bare _ _ => omega
 | at_ b o _ _ _ h0 h1 => exact ⟨b, o, rfl, h0, h1⟩
structure LI (w0 : World) (e Q : Int) (g : Nat) (l12 l14 l16 : Bool) (w : World) : Prop where
 bel : Below w0.heap.size w0 w
 er : l12 = true → zbo w (.iface 112 (.pointer (some ⟨g, 0, none⟩))) e Q
 o14 : l14 = true → l12 = true
 o16 : l16 = true → l14 = true
def lzV (e Q : Int) (b o g2 n c2 kk g : Nat) : Nat → Value
 | 0 => .func (.func 141) #[] #[]
 | 1 => .pointer (some ⟨b, o, none⟩)
 | 2 => .pointer (some ⟨b, o, none⟩)
 | 3 => .pointer (some ⟨b, o, none⟩)
 | 4 => .int .i64 e
 | 5 => .slice (some ⟨g2, 0, none⟩) n c2
 | 6 => .pointer (some ⟨b, o, none⟩)
 | 7 => .pointer (some ⟨b, o, none⟩)
 | 8 => .pointer (some ⟨b, o + 1, none⟩)
 | 9 => .int .i64 (kk : Int)
 | 10 => .pointer (some ⟨g2, kk, none⟩)
 | 11 => .int .i64 Q
 | 12 => .tuple #[.slice none 0 0, .iface 112 (.pointer (some ⟨g, 0, none⟩))]
 | 13 => .slice none 0 0
 | 14 => .iface 112 (.pointer (some ⟨g, 0, none⟩))
 | 15 => .slice none 0 0
 | 16 => .iface 112 (.pointer (some ⟨g, 0, none⟩))
 | _ => undef
set_option maxHeartbeats 16000000 in
set_option maxRecDepth 100000 in
theorem zzb (s : ByteArray) (w : World) (hs : s.size ≤ 1000000) (hg : zbh w) :
  Calls Tryz.prog 114 #[.string s] w fun e w' => ∃ v x, e = .returned (.tuple #[v, x]) ∧ w'.ownsRow w.heap.size 174 3 v (zcu s).1.length (tokV (zcu s).1) ∧ zbo w' x (zcu s).2.1 (zcu s).2.2 ∧ Below w.heap.size w w' := by
 obtain ⟨i0, hi, hz0, hz1, hz2⟩ := info_parts zqe;obtain ⟨j0, hj, hy0, hy1, hy2⟩ := info_parts ymy;obtain ⟨X, hX⟩ : ∃ X, X = zkb s := ⟨_, rfl⟩;have HX := Lib.hid hX.symm;have HL0 := Lib.hid (show LAt s X 0 [] [] by rw [hX]; exact LAt.start s);clear hX;go_enter Tryz.func114, Tryz.ntmps114;go_wp2;go_loopw [4, 5, 7] (fun ov sv pv wr => ∃ (p : Nat) (acc : List Tok) (st : List Int), pv = .int .i64 p ∧ p ≤ s.size ∧ Hid (LAt s X p acc st) ∧ (Hid (acc.length = st.length) ∧ st.length ≤ p) ∧ acc.length ≤ p ∧ Hid (zfl acc) ∧ wr.ownsRow w.heap.size 174 3 ov acc.length (tokV acc) ∧ wr.ownsRow w.heap.size 3 1 sv st.length (stV st) ∧ Below w.heap.size w wr) (fun _ _ pv _ => s.size - (intOf pv).toNat)
 case atStart => exact ⟨0, [], [], rfl, Nat.zero_le _, HL0, ⟨Lib.hid rfl, Nat.le_refl _⟩, Nat.le_refl _, Lib.hid zfl.nil, World.ownsRow_nil _ _ _ _, World.ownsRow_nil _ _ _ _, Below.refl _ _⟩
 case round =>
  obtain ⟨p, acc, st, rfl, hp, HL, ⟨hlen, hsp⟩, hap, HF, hT, hS, hbel⟩ := hrel;clear HL0;have hB := hbel.size;by_cases hlt : p < s.size
  ·have d0 : decide ((p : Int) < (s.size : Int)) = true := decide_eq_true (by omega);have d0' : decide (p < s.size) = true := decide_eq_true (by omega);have hst : st.length ≤ 1000000 := by omega
   have hac : acc.length ≤ 1000000 := by omega
   obtain ⟨n, k, e, ha, hx⟩ := yit s p;have hl : (s.extract p s.size).size ≤ maxLen := by rw [ByteArray.size_extract]; unfold maxLen; omega
   have hv := Lib.hid (show vget (s.extract p s.size).data.toList = (n, k, e) from ha);have q1 : (0 : Int) ≤ (p : Int) := by omega
   have q2 : (p : Int) ≤ (s.size : Int) := by omega
   have HA := Lib.hid ha;clear ha;go_wp2_with (first
    | (at_builtin; refine wpList_append_own _ rfl (.tmp 20) (.tmp 22) 117 rfl w.heap.size 3 j0 (.int .i64 0) 1 8 Tryz.underlying117 hj hy0 hy1 hy2 rfl (by decide) u5 st.length (stV st) rfl (hS.alloc _) ⟨wr.heap.size, 0, none⟩ 1 1 [.int .i64 (p : Int)] rfl rfl (zby _ _ _) (by intro u hu; simp at hu; subst hu; rfl) (by unfold maxLen; omega) (by omega) (by simp; omega) ?_; intro v1 w2 hS1 hg2 _; have b2 := zaj (hbel.alloc hB _) hg2 (by simp; omega) (hS.alloc _); have hS2 := zxp (x := (p : Int)) rfl hS1; have hT2 := (hT.alloc _).kept hg2 (own_ne hT hS (by decide))))
   refine (zhx (s.extract p s.size) _ hl).mono ?_;rintro r w' ⟨rfl, rfl⟩;rw [hv.out];simp only;clear hT hS hbel;have hB2 := b2.size;rcases hx with ⟨rfl, hn, x2, x3, x4⟩ | ⟨he, rfl, rfl⟩
   ·rw [zak];have hand := and_one hn;obtain ⟨H, hH⟩ : ∃ H, H = n / 2 := ⟨_, rfl⟩;have hq : (n : Int) / 2 = (H : Int) := by omega
    have hH63 : H < 9223372036854775808 := by omega
    have wH : IntKind.i64.wrap (H : Int) = (H : Int) := IntWalk.i64_in _ (by omega);have w1 : IntKind.i64.wrap ((p : Int) + (k : Int)) = (p : Int) + (k : Int) := IntWalk.i64_in _ (by omega);have r1 : (0 : Int) ≤ (p : Int) + (k : Int) := by omega
    have r2 : (p : Int) + (k : Int) ≤ (s.size : Int) := by omega
    have r3 : ((p : Int) + (k : Int)).toNat = p + k := by omega
    by_cases h2 : n % 2 = 0
    ·rw [h2] at hand;have hand0 : bits BinOp.and IntKind.u64 (n : Int) 1 = 0 := hand;by_cases h0 : H = 0
     ·have HV := Lib.hid (zds HX.out (HL.out.form hlt HA.out h2 (by omega)) (by omega));have z0 : ((H : Int) == 0) = true := by rw [beq_iff_eq]; omega
      clear hand h2 h0 hH;go_wp2_with fail;refine (zff 3 (p : Int) _).mono ?_;rintro r w9 ⟨rfl, rfl⟩;go_wp2;go_ret2;exact ⟨_, _, rfl, by rw [HV.out]; exact World.ownsRow_nil _ _ _ _, by rw [HV.out]; exact at_new _ _ _ (by omega), b2.alloc b2.size _⟩
     ·have z0 : ((H : Int) == 0) = false := by rw [beq_eq_false_iff_ne]; omega
      have e1 : IntKind.i64.wrap ((s.size : Int) - (p : Int)) = (s.size : Int) - (p : Int) := IntWalk.i64_in _ (by omega);have e2 : IntKind.i64.wrap ((s.size : Int) - (p : Int) - (k : Int)) = (s.size : Int) - (p : Int) - (k : Int) := IntWalk.i64_in _ (by omega);have e3 : IntKind.u64.wrap ((s.size : Int) - (p : Int) - (k : Int)) = (s.size : Int) - (p : Int) - (k : Int) := by rw [IntKind.wrap_u64]; omega
      by_cases h3 : s.size < p + k + H
      ·have HV := Lib.hid (zds HX.out (HL.out.miss hlt HA.out h2 (by omega) (by omega)) (by omega));have d1 : decide ((s.size : Int) - (p : Int) - (k : Int) < (H : Int)) = true := decide_eq_true (by omega);clear hand h2 h0 hH;go_wp2_with fail;refine (zff 7 (s.size : Int) _).mono ?_;rintro r w9 ⟨rfl, rfl⟩;go_wp2;go_ret2;exact ⟨_, _, rfl, by rw [HV.out]; exact World.ownsRow_nil _ _ _ _, by rw [HV.out]; exact at_new _ _ _ (by omega), b2.alloc b2.size _⟩
      ·have HN := Lib.hid (HL.out.own hlt HA.out h2 (by omega) (by omega));rw [← hH] at HN;have d1 : decide ((s.size : Int) - (p : Int) - (k : Int) < (H : Int)) = false := decide_eq_false (by omega);have w2' : IntKind.i64.wrap ((p : Int) + (k : Int) + (H : Int)) = (p : Int) + (k : Int) + (H : Int) := IntWalk.i64_in _ (by omega);have w3' : IntKind.i64.wrap ((k : Int) + (H : Int)) = (k : Int) + (H : Int) := IntWalk.i64_in _ (by omega);have w4' : IntKind.i64.wrap ((p : Int) + ((k : Int) + (H : Int))) = ((p + k + H : Nat) : Int) := by
        rw [show (p : Int) + ((k : Int) + (H : Int)) = ((p + k + H : Nat) : Int) by omega]; exact IntWalk.i64_in _ (by omega)
       have t1 : (p : Int) + (k : Int) ≤ (p : Int) + (k : Int) + (H : Int) := by omega
       have t2 : (p : Int) + (k : Int) + (H : Int) ≤ (s.size : Int) := by omega
       have t3 : ((p : Int) + (k : Int) + (H : Int)).toNat = p + k + H := by omega
       have hTs : (s.extract (p + k) (p + k + H)).size ≤ 1000000 := by rw [ByteArray.size_extract]; omega
       have hp' : p + k + H ≤ s.size := by omega
       have hap' : acc.length + 1 ≤ p + k + H := by omega
       have hsp' : st.length + 1 ≤ p + k + H := by omega
       have hmeas : s.size - (p + k + H) < s.size - p := by omega
       clear hand h2 h0 hH h3;go_wp2_with (first
        | (at_builtin; refine wpList_append_own _ rfl (.tmp 70) (.tmp 83) 130 rfl w.heap.size 174 i0 (.agg #[.string ⟨#[]⟩, .int .i64 0, .int .i64 0]) 3 32 Tryz.underlying130 hi hz0 hz1 hz2 rfl (by decide) u4 acc.length (tokV acc) rfl (hT2.alloc _) ⟨w2.heap.size, 0, none⟩ 1 1 [.string (s.extract (p + k) (p + k + H)), .int .i64 0, .int .i64 0] rfl rfl (zdl _ _ _) (by intro u hu; simp at hu; rcases hu with rfl | rfl <;> rfl) (by unfold maxLen; omega) (by omega) (by simp; omega) ?_; intro v4 w4 hT4 hg4 _; have b4 := zaj (b2.alloc hB2 _) hg4 (by simp; omega) (hT2.alloc _); have hT5 := zjx (x := (s.extract (p + k) (p + k + H), 0, 0)) rfl hT4; have hS4 := (hS2.alloc _).kept hg4 (own_ne hS2 hT2 (by decide))))
       go_roundw
       case rel => exact ⟨p + k + H, acc ++ [(s.extract (p + k) (p + k + H), 0, 0)], st ++ [(p : Int)], by go_num, hp', HN, ⟨Lib.hid (by rw [List.length_append, List.length_append, hlen.out]; rfl), by rw [List.length_append]; exact hsp'⟩, by rw [List.length_append]; exact hap', Lib.hid (HF.out.own hTs), hT5, hS4, b4⟩
       case measure => simp [intOf]; omega
    ·have h21 : n % 2 = 1 := by omega
     rw [h21] at hand;have hand0 : bits BinOp.and IntKind.u64 (n : Int) 1 = 1 := hand;by_cases h3 : 63 < H
     ·have HV := Lib.hid (zds HX.out (HL.out.range hlt HA.out h2 (by omega)) (by omega));have d1 : decide ((63 : Int) < (H : Int)) = true := decide_eq_true (by omega);have d1' : decide (63 < H) = true := decide_eq_true (by omega);clear hand h2 hH h21 h3;go_wp2_with fail;refine (zff 2 (p : Int) _).mono ?_;rintro r w9 ⟨rfl, rfl⟩;go_wp2;go_ret2;exact ⟨_, _, rfl, by rw [HV.out]; exact World.ownsRow_nil _ _ _ _, by rw [HV.out]; exact at_new _ _ _ (by omega), b2.alloc b2.size _⟩
     ·have d1 : decide ((63 : Int) < (H : Int)) = false := decide_eq_false (by omega);have d1' : decide (63 < H) = false := decide_eq_false (by omega);obtain ⟨m, j, e, hb, hx⟩ := zdz s (p + k) 1023;have hl2 : (s.extract (p + k) s.size).size ≤ maxLen := by rw [ByteArray.size_extract]; unfold maxLen; omega
      have hv2 := Lib.hid (show vint (s.extract (p + k) s.size).data.toList 1023 = (m, j, e) from hb);have H2 := Lib.hid h2;have H3 := Lib.hid (show ¬ 63 < n / 2 by omega);have hH63' : H ≤ 63 := by omega
      have HH := Lib.hid hH;have HB := Lib.hid hb;clear hand h2 hH h21 h3 hb;go_wp2_with fail;refine (zdn (s.extract (p + k) s.size) 1023 _ hl2 (by omega)).mono ?_;rintro r w' ⟨rfl, rfl⟩;rw [hv2.out];simp only;rcases hx with ⟨rfl, y1, y2, y3, y4⟩ | ⟨he, rfl, rfl⟩
      ·rw [zak];have HN := Lib.hid (HL.out.rep hlt HA.out x2 H2.out H3.out HB.out);rw [← HH.out] at HN;have w2' : IntKind.i64.wrap ((m : Int) + 1) = (m : Int) + 1 := IntWalk.i64_in _ (by omega);have w3' : IntKind.i64.wrap ((H : Int) + 4) = (H : Int) + 4 := IntWalk.i64_in _ (by omega);have w5' : IntKind.i64.wrap ((k : Int) + (j : Int)) = (k : Int) + (j : Int) := IntWalk.i64_in _ (by omega);have w4' : IntKind.i64.wrap ((p : Int) + ((k : Int) + (j : Int))) = ((p + k + j : Nat) : Int) := by
        rw [show (p : Int) + ((k : Int) + (j : Int)) = ((p + k + j : Nat) : Int) by omega]; exact IntWalk.i64_in _ (by omega)
       have hap' : acc.length + 1 ≤ p + k + j := by omega
       have hsp' : st.length + 1 ≤ p + k + j := by omega
       have hmeas : s.size - (p + k + j) < s.size - p := by omega
       go_wp2_with (first
        | (at_builtin; refine wpList_append_own _ rfl (.tmp 120) (.tmp 128) 130 rfl w.heap.size 174 i0 (.agg #[.string ⟨#[]⟩, .int .i64 0, .int .i64 0]) 3 32 Tryz.underlying130 hi hz0 hz1 hz2 rfl (by decide) u4 acc.length (tokV acc) rfl (hT2.alloc _) ⟨w2.heap.size, 0, none⟩ 1 1 [.string ⟨#[]⟩, .int .i64 ((m : Int) + 1), .int .i64 ((H : Int) + 4)] rfl rfl (zdl _ _ _) (by intro u hu; simp at hu; rcases hu with rfl | rfl | rfl <;> rfl) (by unfold maxLen; omega) (by omega) (by simp; omega) ?_; intro v4 w4 hT4 hg4 _; have b4 := zaj (b2.alloc hB2 _) hg4 (by simp; omega) (hT2.alloc _); have hT5 := zjx (x := (⟨#[]⟩, (m : Int) + 1, (H : Int) + 4)) rfl hT4; have hS4 := (hS2.alloc _).kept hg4 (own_ne hS2 hT2 (by decide))))
       go_roundw
       case rel => exact ⟨p + k + j, acc ++ [(⟨#[]⟩, (m : Int) + 1, (H : Int) + 4)], st ++ [(p : Int)], by go_num, y4, HN, ⟨Lib.hid (by rw [List.length_append, List.length_append, hlen.out]; rfl), by rw [List.length_append]; exact hsp'⟩, by rw [List.length_append]; exact hap', Lib.hid (HF.out.rep y1 hH63'), hT5, hS4, b4⟩
       case measure => simp [intOf]; omega
      ·have HV := Lib.hid (zds HX.out (HL.out.back hlt HA.out H2.out H3.out HB.out he) he);have HE := Lib.hid he;have hErr := zfz w2 e;rw [zau he] at hErr ⊢;clear he;go_wp2_with fail;refine (zde hErr (hg.below b2)).mono ?_;rintro r w3 ⟨rfl, hb3⟩;have b3 := b2.trans (hb3.mono hB2);go_wp2_with fail;refine (zff e ((p : Int) + (k : Int)) _).mono ?_;rintro r w9 ⟨rfl, rfl⟩;go_wp2;go_ret2;exact ⟨_, _, rfl, by rw [HV.out]; exact World.ownsRow_nil _ _ _ _, by rw [HV.out]; exact at_new _ _ _ HE.out, b3.alloc b3.size _⟩
   ·have HV := Lib.hid (zds HX.out (HL.out.num hlt HA.out he) he);have HE := Lib.hid he;have hErr := zfz w2 e;rw [zau he] at hErr ⊢;clear he;go_wp2_with fail;refine (zde hErr (hg.below b2)).mono ?_;rintro r w3 ⟨rfl, hb3⟩;have b3 := b2.trans (hb3.mono hB2);go_wp2_with fail;refine (zff e (p : Int) _).mono ?_;rintro r w9 ⟨rfl, rfl⟩;go_wp2;go_ret2;exact ⟨_, _, rfl, by rw [HV.out]; exact World.ownsRow_nil _ _ _ _, by rw [HV.out]; exact at_new _ _ _ HE.out, b3.alloc b3.size _⟩
  ·have hE := Lib.hid (HL.out.done (by omega));have d0 : decide ((p : Int) < (s.size : Int)) = false := decide_eq_false (by omega);have d0' : decide (p < s.size) = false := decide_eq_false (by omega);have hlenm : acc.length ≤ maxLen := by unfold maxLen; omega
   obtain ⟨A9, c9, rfl⟩ := zah hT;have hTk : Toks wr wr.heap.size A9 acc.length acc := ⟨Sl.zbf hT, HF.out⟩;go_wp2_with fail;refine (zgh wr acc.length c9 A9 acc hTk hlenm).mono ?_;rintro r w1 ⟨v1, rfl, hv1, hb1⟩;have b1 := hbel.trans (hb1.mono hB);have hT1 := zgb hT hb1;have hS1 := zgb hS hb1;clear hT hS hbel hTk HL;by_cases h1 : (zaz acc).1 = 0
   ·have HV := Lib.hid (zpq HX.out hE.out h1);obtain rfl : v1 = .nilIface := by
     have h9 : zbo w1 v1 (zaz acc).1 (zaz acc).2 := hv1;rw [h1] at h9;exact h9.zero.1
    clear hv1 h1;go_wp2;go_ret2;exact ⟨_, _, rfl, by rw [HV.out]; exact hT1, by rw [HV.out]; exact .none, b1⟩
   ·obtain ⟨kk, hk1, hk2⟩ := zof h1;have HV := Lib.hid (zmh HX.out hE.out h1);unfold zck at hv1;generalize zaz acc = f at *;obtain ⟨e, pl⟩ := f;simp only at *;subst hk1;rw [Int.toNat_natCast] at HV;obtain ⟨b, o, rfl, g0, g1⟩ := ylu hv1 (by omega);have hta := ymf (.pointer (some ⟨b, o, none⟩));have hkn : kk < st.length := by rw [← hlen.out]; exact hk2
    obtain ⟨g2, c2, rfl, _, hgl⟩ := zjm hS1 (by omega);obtain ⟨Q, hQ⟩ : ∃ Q, Q = st.getD kk 0 := ⟨_, rfl⟩;rw [← hQ] at HV;have sc : w1.cell? ⟨g2, kk, none⟩ = some (.int .i64 Q) := by
     rw [hS1.cellAt kk (by rw [Nat.mul_one]; exact hkn), List.getElem?_map, List.getElem?_eq_getElem hkn, hQ];simp [List.getD, List.getElem?_eq_getElem hkn]
    have k0 : (0 : Int) ≤ (kk : Int) := by omega
    have k1 : (kk : Int) < (st.length : Int) := by omega
    have HE := Lib.hid h1;clear hQ hv1 h1;go_wp2;refine Flow.zdh (by kernel_rfl) (by kernel_rfl) (by kernel_rfl) 161 rfl (by kernel_rfl) (lzV e Q b o g2 st.length c2 kk) (fun g L wz => LI w1 e Q g (L 12) (L 14) (L 16) wz) 0 ⟨(Below.refl _ _).drew, fun h => (by cases h), fun h => (by cases h), fun h => (by cases h)⟩ ⟨?_, ?_, ?_, ?_, ?_, ?_, ?_, ?_, ?_, ?_, ?_, ?_, ?_, ?_, ?_, ?_, ?_, trivial⟩ ?_
    ·intro g L wz K ρ hc0 hf0 hF hO hi hd hC hK;have e6 : ρ (.tmp 6) = .func (.func 141) #[] #[] := hO 6 (by kernel_rfl);simp [go_sem, hc0, hf0, e6];exact hK g wz hC (fun _ _ => rfl)
    ·intro g L wz K ρ hc0 hf0 hF hO hi hd hC hK;have e14 : ρ (.tmp 14) = .pointer (some ⟨b, o, none⟩) := hO 14 (by kernel_rfl);simp [go_sem, hc0, hf0, e14];exact hK g wz hC (fun _ _ => rfl)
    ·intro g L wz K ρ hc0 hf0 hF hO hi hd hC hK;have d1 : L 1 = true := hd ⟨1, .data⟩ (by simp) rfl;have e146 : ρ (.tmp 146) = .pointer (some ⟨b, o, none⟩) := hF 146 1 (by kernel_rfl) d1;simp [go_sem, hc0, hf0, e146];exact hK g wz hC (fun _ _ => rfl)
    ·intro g L wz K ρ hc0 hf0 hF hO hi hd hC hK;have d2 : L 2 = true := hd ⟨2, .data⟩ (by simp) rfl;have e147 : ρ (.tmp 147) = .pointer (some ⟨b, o, none⟩) := hF 147 2 (by kernel_rfl) d2;simp [go_sem, hc0, hf0, e147];exact hK g wz hC (fun _ _ => rfl)
    ·intro g L wz K ρ hc0 hf0 hF hO hi hd hC hK;have d3 : L 3 = true := hd ⟨3, .data⟩ (by simp) rfl;have e148 : ρ (.tmp 148) = .pointer (some ⟨b, o, none⟩) := hF 148 3 (by kernel_rfl) d3;have cc := (hC.bel.cell (cell_lt g0)).trans g0;simp [go_sem, hc0, hf0, e148, cc];exact hK g wz hC (fun _ _ => rfl)
    ·intro g L wz K ρ hc0 hf0 hF hO hi hd hC hK;have e5 : ρ (.tmp 5) = .slice (some ⟨g2, 0, none⟩) st.length c2 := hO 5 (by kernel_rfl);simp [go_sem, hc0, hf0, e5];exact hK g wz hC (fun _ _ => rfl)
    ·intro g L wz K ρ hc0 hf0 hF hO hi hd hC hK;have e14 : ρ (.tmp 14) = .pointer (some ⟨b, o, none⟩) := hO 14 (by kernel_rfl);simp [go_sem, hc0, hf0, e14];exact hK g wz hC (fun _ _ => rfl)
    ·intro g L wz K ρ hc0 hf0 hF hO hi hd hC hK;have d6 : L 6 = true := hd ⟨6, .data⟩ (by simp) rfl;have e151 : ρ (.tmp 151) = .pointer (some ⟨b, o, none⟩) := hF 151 6 (by kernel_rfl) d6;simp [go_sem, hc0, hf0, e151];exact hK g wz hC (fun _ _ => rfl)
    ·intro g L wz K ρ hc0 hf0 hF hO hi hd hC hK;have d7 : L 7 = true := hd ⟨7, .data⟩ (by simp) rfl;have e152 : ρ (.tmp 152) = .pointer (some ⟨b, o, none⟩) := hF 152 7 (by kernel_rfl) d7;simp [go_sem, hc0, hf0, e152];exact hK g wz hC (fun _ _ => rfl)
    ·intro g L wz K ρ hc0 hf0 hF hO hi hd hC hK;have d8 : L 8 = true := hd ⟨8, .data⟩ (by simp) rfl;have e153 : ρ (.tmp 153) = .pointer (some ⟨b, o + 1, none⟩) := hF 153 8 (by kernel_rfl) d8;have cc := (hC.bel.cell (cell_lt g1)).trans g1;simp [go_sem, hc0, hf0, e153, cc];exact hK g wz hC (fun _ _ => rfl)
    ·intro g L wz K ρ hc0 hf0 hF hO hi hd hC hK;have d5 : L 5 = true := hd ⟨5, .data⟩ (by simp) rfl;have e150 : ρ (.tmp 150) = .slice (some ⟨g2, 0, none⟩) st.length c2 := hF 150 5 (by kernel_rfl) d5;have d9 : L 9 = true := hd ⟨9, .data⟩ (by simp) rfl;have e154 : ρ (.tmp 154) = .int .i64 (kk : Int) := hF 154 9 (by kernel_rfl) d9;simp [go_sem, hc0, hf0, e150, e154, k0, k1, hkn];exact hK g wz hC (fun _ _ => rfl)
    ·intro g L wz K ρ hc0 hf0 hF hO hi hd hC hK;have d10 : L 10 = true := hd ⟨10, .data⟩ (by simp) rfl;have e155 : ρ (.tmp 155) = .pointer (some ⟨g2, kk, none⟩) := hF 155 10 (by kernel_rfl) d10;have cc := (hC.bel.cell (cell_lt sc)).trans sc;simp [go_sem, hc0, hf0, e155, cc];exact hK g wz hC (fun _ _ => rfl)
    ·intro g L wz K ρ hc0 hf0 hF hO hi hd hC hK;have d0 : L 0 = true := hd ⟨0, .data⟩ (by simp) rfl;have e145 : ρ (.tmp 145) = .func (.func 141) #[] #[] := hF 145 0 (by kernel_rfl) d0;have d4 : L 4 = true := hd ⟨4, .data⟩ (by simp) rfl;have e149 : ρ (.tmp 149) = .int .i64 e := hF 149 4 (by kernel_rfl) d4;have d11 : L 11 = true := hd ⟨11, .data⟩ (by simp) rfl;have e156 : ρ (.tmp 156) = .int .i64 Q := hF 156 11 (by kernel_rfl) d11;simp [go_sem, hc0, hf0, e145, e149, e156];refine (zff e Q wz).mono ?_;rintro r wn ⟨rfl, rfl⟩;refine ⟨_, rfl, hK wz.heap.size _ ⟨hC.bel.alloc hC.bel.size _, fun _ => at_new _ _ _ HE.out, fun _ => rfl, hC.o16⟩ ?_⟩;intro j hj;have h14 : L 14 = false := by cases h : L 14 with | false => rfl | true => (have := hC.o14 h; rw [hi] at this; cases this)
     have h16 : L 16 = false := by cases h : L 16 with | false => rfl | true => (have := hC.o16 h; rw [h14] at this; cases this)
     unfold lzV; split <;> first | rfl | (rw [hi] at hj; cases hj) | (rw [h14] at hj; cases hj) | (rw [h16] at hj; cases hj)
    ·intro g L wz K ρ hc0 hf0 hF hO hi hd hC hK;have d12 : L 12 = true := hd ⟨12, .data⟩ (by simp) rfl;have e157 : ρ (.tmp 157) = .tuple #[.slice none 0 0, .iface 112 (.pointer (some ⟨g, 0, none⟩))] := hF 157 12 (by kernel_rfl) d12;simp [go_sem, hc0, hf0, e157];exact hK g wz hC (fun _ _ => rfl)
    ·intro g L wz K ρ hc0 hf0 hF hO hi hd hC hK;have d12 : L 12 = true := hd ⟨12, .data⟩ (by simp) rfl;have e157 : ρ (.tmp 157) = .tuple #[.slice none 0 0, .iface 112 (.pointer (some ⟨g, 0, none⟩))] := hF 157 12 (by kernel_rfl) d12;simp [go_sem, hc0, hf0, e157];exact hK g wz ⟨hC.bel, hC.er, fun _ => d12, fun _ => rfl⟩ (fun _ _ => rfl)
    ·intro g L wz K ρ hc0 hf0 hF hO hi hd hC hK;have d13 : L 13 = true := hd ⟨13, .data⟩ (by simp) rfl;have e158 : ρ (.tmp 158) = .slice none 0 0 := hF 158 13 (by kernel_rfl) d13;simp [go_sem, hc0, hf0, e158];exact hK g wz hC (fun _ _ => rfl)
    ·intro g L wz K ρ hc0 hf0 hF hO hi hd hC hK;have d14 : L 14 = true := hd ⟨14, .data⟩ (by simp) rfl;have e159 : ρ (.tmp 159) = .iface 112 (.pointer (some ⟨g, 0, none⟩)) := hF 159 14 (by kernel_rfl) d14;simp [go_sem, hc0, hf0, e159];exact hK g wz ⟨hC.bel, hC.er, hC.o14, fun _ => d14⟩ (fun _ _ => rfl)
    ·intro g L wz hL hC;have hbF := hC.bel;have hEr := hC.er (hL 12 (by decide));simp only [Flow.zbs, lzV];go_wp2;go_ret2;refine ⟨_, _, ?_, by rw [HV.out]; exact World.ownsRow_nil _ _ _ _, by rw [HV.out]; exact hEr, b1.trans (hbF.mono b1.size)⟩;simp [go_sem]
end Go.Proofs.YtkejlnjnoiidnaaGreatDoor
end
