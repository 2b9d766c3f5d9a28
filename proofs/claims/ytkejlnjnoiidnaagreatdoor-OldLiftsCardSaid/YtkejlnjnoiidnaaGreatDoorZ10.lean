/- body.Write says what bwrite says. -/
import Derived.Test.YtkejlnjnoiidnaaGreatDoorZ6
import Derived.Test.YtkejlnjnoiidnaaGreatDoorZ7
import Derived.Test.YtkejlnjnoiidnaaGreatDoorZ8
import Derived.Test.YtkejlnjnoiidnaaGreatDoorZ9
import Derived.Test.YtkejlnjnoiidnaaGreatDoorZ9b
import Derived.Test.YtkejlnjnoiidnaaGreatDoorZ2
import Derived.Test.YtkejlnjnoiidnaaGreatDoorZ5
import Derived.Test.YtkejlnjnoiidnaaGreatDoorZ3
import Derived.Test.YtkejlnjnoiidnaaGreatDoorZ1
set_option linter.unusedSimpArgs false
set_option linter.unusedVariables false
section
namespace Go.Proofs.YtkejlnjnoiidnaaGreatDoor
open Go.RowKit As
theorem zmr {l : List Wr} {k : Nat} {x : Wr} (h : l[k]? = some x) : keysOf (l.take (k + 1)) = keysOf (l.take k) ++ [x.2.2.2.1] := by
 obtain ⟨hk, e⟩ := List.getElem?_eq_some_iff.1 h;unfold keysOf;rw [List.take_succ_eq_append_getElem hk, e];simp
theorem zpk {f h : List Ent} {l : List Wr} (e : (zbd f h l).1 ≠ 0) : zcb f h l = (strOf [], zbd f h l) := by unfold zcb; rw [if_pos e]
theorem zoa {f h : List Ent} {l : List Wr} (e : (zbd f h l).1 = 0) (e2 : 20000 < (zew f h l).length) : zcb f h l = (strOf [], 4, -1) := by unfold zcb; rw [if_neg (by omega), if_pos e2]
theorem zmj {f h : List Ent} {l : List Wr} (e : (zbd f h l).1 = 0) (e2 : ¬ 20000 < (zew f h l).length) : zcb f h l = (strOf (zew f h l), 0, -1) := by unfold zcb; rw [if_neg (by omega), if_neg e2]
theorem ylf {l : List Ent} (hris : zgs 0 l) (h16 : l.length ≤ 16) : ∀ i, i ≤ (runs l).length → ∃ X E, RAt (runs l) i X E := by
 intro i;induction i with
 | zero => intro _; exact ⟨[], -1, RAt.new _⟩
 | succ i ih =>
  intro hi;obtain ⟨X, E, h⟩ := ih (by omega);exact ⟨_, _, (h.next hris h16 (List.getElem?_eq_getElem (by omega))).1⟩
theorem zio {l : List Ent} (h : (zaf l).1 = 0) : (zbt l).length ≤ 650 := by
 have h16 := zbu h;obtain ⟨X, E, hr⟩ := ylf (zlp h) h16 _ (Nat.le_refl _);have h1 := yfk hr h16;have h2 := zly l;have h3 := zae (n := (runs l).length) (by omega);rw [hr.done, List.length_append];omega
def zdg (T : List ByteArray) : List UInt8 := T.flatMap fun k => vput k.size ++ k.data.toList
theorem zna {T : List ByteArray} {j : Nat} {s : ByteArray} (h : T[j]? = some s) : zdg (T.take (j + 1)) = zdg (T.take j) ++ (vput s.size ++ s.data.toList) := by
 obtain ⟨hk, e⟩ := List.getElem?_eq_some_iff.1 h;unfold zdg;rw [List.take_succ_eq_append_getElem hk, e];simp
theorem zks {T : List ByteArray} (h : ∀ s ∈ T, s.size ≤ 40) : (zdg T).length ≤ 50 * T.length := by
 induction T with
 | nil => simp [zdg]
 | cons x T ih =>
  have h1 := ih fun s hs => h s (by simp [hs])
  have h2 := h x (by simp);have h3 := zae (n := x.size) (by omega);unfold zdg at h1 ⊢;simp only [List.flatMap_cons, List.length_append, List.length_cons];have : x.data.toList.length = x.size := by simp
  omega
theorem ygz {s : ByteArray} : strOf (vput s.size) ++ s = strOf (vput s.size ++ s.data.toList) := by
 apply ByteArray.ext;rw [ByteArray.data_append];simp [strOf]
theorem zlb {A B : List UInt8} (h : A.length ≤ 100000) (h' : B.length ≤ 100000) : ¬ 9223372036854775807 < (strOf A).size + (strOf B).size := by
 rw [zas, zas]; omega
theorem zpr {l : List Wr} (h : ∀ x ∈ l, zao x = 0) : ∀ s ∈ (Keys.tab (keysOf l)).1, s.size ≤ 40 := by
 intro s hs;have := (Keys.zkl (keysOf l)).2.2.2 s hs;unfold keysOf at this;obtain ⟨x, hx, rfl⟩ := List.mem_map.1 this;exact (zfm (h x hx)).2.2.2.2.2.2.1
theorem yij {l : List Wr} (h : ∀ x ∈ l, zao x = 0) : ∀ s ∈ keysOf l, s.size ≤ maxLen := by
 intro s hs;unfold keysOf at hs;obtain ⟨x, hx, rfl⟩ := List.mem_map.1 hs;have := (zfm (h x hx)).2.2.2.2.2.2.1;unfold maxLen;omega
theorem ztw {f h : List Ent} {l : List Wr} {T : List ByteArray} {I : List Int} (hT : T = (Keys.tab (keysOf l)).1) (hI : I = (Keys.tab (keysOf l)).2) : zew f h l = zbt f ++ zbt h ++ vput T.length ++ zdg T ++ vput l.length ++ zbz h I l 0 0 := by
 subst hT hI;unfold zew zdg;rfl
theorem zqv {j : Nat} (h : j ≤ 60) : wrap64 ((j : Int) + 1) = (j : Int) + 1 ∧ IntKind.i64.wrap ((j : Int) + 1) = (j : Int) + 1 := ⟨IntWalk.wrap64_in _ (by omega), IntWalk.i64_in _ (by omega)⟩
theorem ztj {O : List UInt8} {T : List ByteArray} {j : Nat} {x : ByteArray} (hT : ∀ s ∈ T, s.size ≤ 40) (h60 : T.length ≤ 60) (hO : O.length ≤ 1310) (hx : x.size ≤ 40) :
  zfo x = (strOf (vput x.size ++ x.data.toList), 0) ∧ ¬ 9223372036854775807 < (strOf (O ++ zdg (T.take j))).size + (strOf (vput x.size ++ x.data.toList)).size ∧ strOf (O ++ zdg (T.take j)) ++ strOf (vput x.size ++ x.data.toList) = strOf (O ++ zdg (T.take j) ++ (vput x.size ++ x.data.toList)) ∧ x.size ≤ maxLen := by
 have e1 := zks (T := T.take j) (fun s hs => hT s (List.mem_of_mem_take hs));have e2 : (T.take j).length ≤ 60 := by rw [List.length_take]; omega
 have e3 := zae (n := x.size) (by omega);have e4 : x.data.toList.length = x.size := by simp
 refine ⟨by rw [zih (by omega), ygz], zlb (by rw [List.length_append]; omega) (by rw [List.length_append]; omega), zbl _ _, by unfold maxLen; omega⟩
theorem zww {O : List UInt8} {T : List ByteArray} {k : Nat} (h60 : T.length ≤ 60) (hO : O.length ≤ 1310) (hK : (zdg T).length ≤ 50 * T.length) (hk : k ≤ 60) :
  ¬ 9223372036854775807 < (strOf (O ++ zdg T)).size + (strOf (vput k)).size ∧ strOf (O ++ zdg T) ++ strOf (vput k) = strOf (O ++ zdg T ++ vput k) ∧ (O ++ zdg T ++ vput k).length ≤ 4330 := by
 have e3 := zae (n := k) (by omega);have e5 : (O ++ zdg T).length ≤ 4310 := by rw [List.length_append]; omega
 exact ⟨zlb (by omega) (by omega), zbl _ _, by rw [List.length_append]; omega⟩
def ykt (bb bw : Nat) (OUT S5 SG SP SA TL : ByteArray) (y0 y1 y2 tm : Int) (G PL AT : Nat) (A' : Option Addr) (n' c' ab ao k c5 i g : Nat) : Nat → Value
 | 0 => .string OUT
 | 1 => .pointer (some ⟨bw, 2, none⟩)
 | 2 => .int .i64 y2
 | 3 => .int .u8 y2
 | 4 => .slice (some ⟨g, 0, none⟩) 1 1
 | 5 => .string S5
 | 6 => .pointer (some ⟨bw, 0, none⟩)
 | 7 => .pointer (some ⟨bw, 0, none⟩)
 | 8 => .int .i64 y0
 | 9 => .int .i64 tm
 | 10 => .int .i64 (G : Int)
 | 11 => .int .u64 (G : Int)
 | 12 => .string SG
 | 13 => .string (S5 ++ SG)
 | 14 => .pointer (some ⟨bb, 1, none⟩)
 | 15 => .slice A' n' c'
 | 16 => .pointer (some ⟨bw, 0, none⟩)
 | 17 => .pointer (some ⟨bw, 1, none⟩)
 | 18 => .int .i64 y1
 | 19 => .int .i64 (PL : Int)
 | 20 => .int .u64 (PL : Int)
 | 21 => .string SP
 | 22 => .string (S5 ++ SG ++ SP)
 | 23 => .slice (some ⟨ab, ao, none⟩) k c5
 | 24 => .int .i64 (i : Int)
 | 25 => .pointer (some ⟨ab, ao + i, none⟩)
 | 26 => .int .i64 (AT : Int)
 | 27 => .int .u64 (AT : Int)
 | 28 => .string SA
 | 29 => .string (S5 ++ SG ++ SP ++ SA)
 | 30 => .string TL
 | 31 => .string (S5 ++ SG ++ SP ++ SA ++ TL)
 | 32 => .string (OUT ++ (S5 ++ SG ++ SP ++ SA ++ TL))
 | 33 => .string (OUT ++ (S5 ++ SG ++ SP ++ SA ++ TL))
 | _ => undef
structure BI (w0 : World) (y2 : Int) (g : Nat) (l0 l4 l33 : Bool) (w : World) : Prop where
 bel : Below w0.heap.size w0 w
 tmp : l4 = true → w.cell? ⟨g, 0, none⟩ = some (.int .u8 y2) ∧ w.frozen? ⟨g, 0, none⟩ = false
 o33 : l33 = true → l0 = true
theorem BI.no33 {w0 w : World} {y2 : Int} {g : Nat} {l0 l4 l33 : Bool} (h : BI w0 y2 g l0 l4 l33 w) (h0 : l0 = false) : l33 = false := by
 rcases l33 with _ | _
 ·rfl
 ·rw [h.o33 rfl] at h0; cases h0
theorem BI.grow {w0 w w' : World} {y2 : Int} {g : Nat} {l0 l4 l33 : Bool} (h : BI w0 y2 g l0 l4 l33 w) (hb : Below w.heap.size w w') : BI w0 y2 g l0 l4 l33 w' :=
 ⟨h.bel.trans (hb.mono h.bel.size), fun h4 => ⟨(hb.cell (cell_lt (h.tmp h4).1)).trans (h.tmp h4).1, (hb.frozen (p := ⟨g, 0, none⟩) (cell_lt (h.tmp h4).1)).trans (h.tmp h4).2⟩, h.o33⟩
theorem BI.str {P : Program} {w0 w : World} {y2 : Int} {g : Nat} {l0 l4 l33 : Bool} {S5 : ByteArray} (h : BI w0 y2 g l0 l4 l33 w) (h4 : l4 = true) (hS : S5 = strOf [UInt8.ofNat y2.toNat]) (hy : 0 ≤ y2) (hy2 : y2 < 256) (src e dst : TypeId) (hs : P.underlying src = some (.slice e)) (he : P.underlying e = some (.int .u8)) (hd : P.underlying dst = some .string) :
  (convert src dst (.slice (some ⟨g, 0, none⟩) 1 1)).run P w = .ok (.string S5) w := by
 obtain ⟨c0, f0⟩ := h.tmp h4;have hb : BytesAt w g [UInt8.ofNat y2.toNat] := by
  intro i hi;obtain rfl : i = 0 := by simpa using hi
  refine ⟨?_, f0⟩;rw [c0];have : ((UInt8.ofNat y2.toNat).toNat : Int) = y2 := by
   rw [UInt8.toNat_ofNat_of_lt' (show y2.toNat < 256 by clear hi; omega)]; omega
  simp only [List.getD_cons_zero];rw [this]
 have := zjn (P := P) w src e dst g 1 [UInt8.ofNat y2.toNat] hs he hd hb;rw [hS];exact this
theorem ycl {B : ByteArray} (h : 20000 < B.size) : decide (20000 < B.size) = true ∧ decide ((20000 : Int) < (B.size : Int)) = true := ⟨by simpa using h, by simp; omega⟩
theorem yis {B : ByteArray} (h : ¬ 20000 < B.size) : decide (20000 < B.size) = false ∧ decide ((20000 : Int) < (B.size : Int)) = false := ⟨by simpa using h, by simp; omega⟩
theorem zwo {l : List Wr} : (keysOf l).length = l.length := by simp [keysOf]
theorem zpe {l : List Wr} {i : Nat} {w : Wr} (hx : l[i]? = some w) : ziz l (i + 1) = w.1 := by unfold ziz; rw [zep hx]
theorem yjk {h : List Ent} {I : List Int} {l : List Wr} {i AT : Nat} {w : Wr} {t : Int} (hx : l[i]? = some w) (hwt : zao w = 0) (hm : (w.2.1, t) ∈ h) (hh : h.length ≤ 16) (hA : I[i]? = some (AT : Int)) (hA60 : (AT : Int) ≤ 60) (h0 : 0 ≤ ziz l i) (hl : (zbz h I (l.take i) 0 0).length ≤ 400 * i) : (zbz h I (l.take (i + 1)) 0 0).length ≤ 400 * (i + 1) := by
 have hp := zyu hm;have h1 : (I.getD i 0).toNat = AT := by rw [List.getD_eq_getElem?_getD, hA]; simp
 have h2 := yez (h := h) (at_ := I) (i := i) hwt h0 (by omega) (by omega);rw [yfd hx, List.length_append];omega
theorem zys {y0 y1 y2 y5 tm tt : Int} {y3 y4 : ByteArray} {G PL AT : Nat} {h : List Ent} (hwt : zao (y0, y1, y2, y3, y4, y5) = 0) (p0 : 0 ≤ tm) (hG : y0 - tm = (G : Int)) (hPL : PL = placeOf h y1) (hm : (y1, tt) ∈ h) (hh : h.length ≤ 16) (hA : (AT : Int) ≤ 60) :
  (G < 18446744073709551616 ∧ PL < 18446744073709551616 ∧ AT < 18446744073709551616) ∧ (IntKind.u64.wrap (G : Int) = (G : Int) ∧ IntKind.u64.wrap (PL : Int) = (PL : Int) ∧ IntKind.u64.wrap (AT : Int) = (AT : Int)) ∧ IntKind.i64.wrap (G : Int) = (G : Int) ∧ IntKind.u8.wrap y2 = y2 ∧ 0 ≤ y2 ∧ y2 < 256 := by
 have hid := zfm hwt;simp only at hid;have hp := zyu hm;refine ⟨⟨by omega, by omega, by omega⟩, ⟨u64_in (by omega), u64_in (by omega), u64_in (by omega)⟩, IntWalk.i64_in _ (by omega), ?_, by omega, by omega⟩;simp [IntKind.wrap, IntKind.bits, IntKind.signed];omega
theorem ybf {y0 y1 y2 y5 : Int} {y3 y4 : ByteArray} {G PL AT : Nat} {O2 W : List UInt8} {OUT S5 SG SP SA TL : ByteArray} (hwt : zao (y0, y1, y2, y3, y4, y5) = 0) (lG : G < 18446744073709551616) (lP : PL < 18446744073709551616) (lA : AT < 18446744073709551616)
  (h0 : OUT = strOf (O2 ++ W)) (h5 : S5 = strOf [UInt8.ofNat y2.toNat]) (hG : SG = (⟨(vput G).toArray⟩ : ByteArray)) (hP : SP = (⟨(vput PL).toArray⟩ : ByteArray)) (hA : SA = (⟨(vput AT).toArray⟩ : ByteArray)) (hT : TL = (zlm (y0, y1, y2, y3, y4, y5)).1) (lO : O2.length ≤ 4330) (lW : W.length ≤ 24000) :
  ¬ 9223372036854775807 < S5.size + SG.size ∧ ¬ 9223372036854775807 < S5.size + SG.size + SP.size ∧ ¬ 9223372036854775807 < S5.size + SG.size + SP.size + SA.size ∧ ¬ 9223372036854775807 < S5.size + SG.size + SP.size + SA.size + TL.size ∧ ¬ 9223372036854775807 < OUT.size + (S5.size + SG.size + SP.size + SA.size + TL.size) := by
 have l1 := zae lG;have l2 := zae lP;have l3 := zae lA;have ht := zwl hwt;rw [zin hwt] at hT;have e1 : S5.size = 1 := by rw [h5, zas]; rfl
 have e2 : SG.size = (vput G).length := by rw [hG]; exact zas _
 have e3 : SP.size = (vput PL).length := by rw [hP]; exact zas _
 have e4 : SA.size = (vput AT).length := by rw [hA]; exact zas _
 have e5 : TL.size ≤ 320 := by rw [hT]; exact ht
 have e6 : OUT.size ≤ 28330 := by rw [h0, zas, List.length_append]; omega
 omega
theorem yfg {h : List Ent} {I : List Int} {l : List Wr} {i : Nat} {y0 y1 y2 y5 tm : Int} {y3 y4 : ByteArray} {G PL AT : Nat} {O2 : List UInt8} (hx : l[i]? = some (y0, y1, y2, y3, y4, y5)) (hwt : zao (y0, y1, y2, y3, y4, y5) = 0) (htm : tm = ziz l i) (hG : y0 - tm = (G : Int)) (hP : PL = placeOf h y1) (hA : I[i]? = some (AT : Int)) :
  strOf (O2 ++ zbz h I (l.take i) 0 0) ++ (strOf [UInt8.ofNat y2.toNat] ++ (⟨(vput G).toArray⟩ : ByteArray) ++ (⟨(vput PL).toArray⟩ : ByteArray) ++ (⟨(vput AT).toArray⟩ : ByteArray) ++ (zlm (y0, y1, y2, y3, y4, y5)).1) = strOf (O2 ++ zbz h I (l.take (i + 1)) 0 0) := by
 have e0 : ∀ T : ByteArray, T = strOf T.data.toList := fun T => by apply ByteArray.ext; simp [strOf]
 rw [zin hwt, yfd hx];simp only;rw [e0 (zfn (y0, y1, y2, y3, y4, y5)), show (⟨(vput G).toArray⟩ : ByteArray) = strOf (vput G) from rfl, show (⟨(vput PL).toArray⟩ : ByteArray) = strOf (vput PL) from rfl, show (⟨(vput AT).toArray⟩ : ByteArray) = strOf (vput AT) from rfl];rw [zbl, zbl, zbl, zbl, zbl];congr 1;unfold zzk;have h1 : (I.getD i 0).toNat = AT := by rw [List.getD_eq_getElem?_getD, hA]; simp
 rw [h1, ← htm, hG, hP, Int.toNat_natCast, List.append_assoc O2]
theorem BI.build {w0 w : World} {y2 : Int} {g : Nat} {l0 l4 l33 : Bool} (h : BI w0 y2 g l0 l4 l33 w) : BI w0 y2 w.heap.size l0 true l33 (w.alloc (.cells #[.int .u8 y2] 5)) :=
 ⟨h.bel.alloc h.bel.size _, fun _ => ⟨by rw [World.cell?_alloc_new]; rfl, by simp⟩, h.o33⟩
theorem ybw {w : World} {base : Nat} {E : TypeId} {v : Value} {l : List ByteArray} {x : ByteArray} {n : Nat} (hn : l.length = n) (h : w.ownsRow base E 1 v (n + 1) (l.map Value.string ++ [.string x])) : w.ownsRow base E 1 v (l ++ [x]).length ((l ++ [x]).map Value.string) := by
 subst hn;simpa using h
set_option maxHeartbeats 8000000 in
set_option maxRecDepth 100000 in
theorem zrf (w : World) (x : zav) (hb : Bat w x) (hf : ∀ y ∈ x.f, zbe y) (hh : ∀ y ∈ x.h, zbe y) (hcf : x.n ≤ x.c) (hch : x.n' ≤ x.c') (hg : zbh w) :
  Calls Tryz.prog 43 #[x.v] w fun e w' => ∃ v, e = .returned (.tuple #[.string (zcb x.f x.h x.l).1, v]) ∧ zck w' v (zcb x.f x.h x.l).2 ∧ Below w.heap.size w w' := by
 obtain ⟨i0, hi, hz0, hz1, hz2⟩ := info_parts Keys.zfy;have hbx := BxAt.new w x;have b0 := zaa w (.cells #[.slice x.A x.n x.c, .slice x.A' x.n' x.c', .slice x.A'' x.n'' x.c''] 25);have hb0 := hb.grow b0;have hg0 := hg.below b0;by_cases hbad : (zbd x.f x.h x.l).1 = 0
 ·obtain ⟨hbr, hvf, hvh, h60, _⟩ := zbq hbad;obtain ⟨A, n, c, A', n', c', A'', n'', c'', f, h, l⟩ := x;obtain ⟨sf, sh, sl, nf, nh, nl⟩ := hb;simp only at hbx b0 hf hh sf sh sl nf nh nl hbad hbr hvf hvh h60 hcf hch ⊢;have ef : Ents w w.heap.size A n f := ⟨sf, hf⟩;have eh : Ents w w.heap.size A' n' h := ⟨sh, hh⟩;have hll := zfx zbb 6 (by omega) (fun _ => rfl) sl;have h60n : n'' ≤ 60 := by rw [← hll]; exact h60
  have BA := Lib.hid (fun (k : Nat) (w : Wr) (hx : l[k]? = some w) => yep hbad hx);have HB := Lib.hid hbad;have VF := Lib.hid (zem hvf);have VH := Lib.hid (zem hvh);have HBR := Lib.hid hbr;clear hbad hbr hvf hvh sf sh hf hh hb0 hg0;unfold zav.v;simp only;obtain ⟨q0, q1, q2⟩ := hbx;simp only at q0 q1 q2;go_enter Tryz.func43, Tryz.ntmps43;go_wp2_with fail;refine (zif _ ⟨A, n, c, A', n', c', A'', n'', c'', f, h, l⟩ ⟨(ef.grow b0).1, (eh.grow b0).1, sl.grow b0, nf, nh, nl⟩ ef.2 eh.2 (hg.below b0)).mono ?_;rintro e w1 ⟨v1, rfl, hv1, hb1⟩;simp only at hv1;obtain rfl := zhk hv1 HB.out;clear hv1;have b1 := b0.trans (hb1.mono b0.size);replace q0 := (hb1.cell (cell_lt q0)).trans q0;replace q1 := (hb1.cell (cell_lt q1)).trans q1;replace q2 := (hb1.cell (cell_lt q2)).trans q2;go_wp2_with fail;refine (zog _ n c A f (ef.grow b1) nf hcf).mono ?_;rintro e w2 ⟨v2, rfl, _, hb2⟩;rw [VF.out];have b2 := b1.trans (hb2.mono b1.size);replace q1 := (hb2.cell (cell_lt q1)).trans q1;replace q2 := (hb2.cell (cell_lt q2)).trans q2;clear q0 hb1 hb2 b0;go_wp2_with fail;refine (zog _ n' c' A' h (eh.grow b2) nh hch).mono ?_;rintro e w3 ⟨v3, rfl, _, hb3⟩;rw [VH.out];have b3 := b2.trans (hb3.mono b2.size);replace q1 := (hb3.cell (cell_lt q1)).trans q1;replace q2 := (hb3.cell (cell_lt q2)).trans q2;have sl3 := sl.grow b3;have eh3 := eh.grow b3;clear hb3 b1 b2 ef eh sl;go_wp2;go_loopw [9, 11, 44] (fun nv _ kv wr => ∃ k : Nat, k ≤ n'' ∧ kv = .int .i64 k ∧ wr.ownsRow w3.heap.size 9 1 nv (keysOf (l.take k)).length ((keysOf (l.take k)).map Value.string) ∧ Below w3.heap.size w3 wr) (fun _ _ kv _ => n'' - (intOf kv).toNat)
  case atStart => exact ⟨0, Nat.zero_le _, rfl, World.ownsRow_nil _ _ _ _, Below.refl _ _⟩
  case round =>
   obtain ⟨k, hk, rfl, hT, hbel⟩ := hrel;have hB := hbel.size;by_cases hlt : k < n''
   ·obtain ⟨b, o, y, rfl, hb, hx, hc⟩ := zvh sl3 hlt;obtain ⟨y0, y1, y2, y3, y4, y5⟩ := y;have c0 := (hbel.cell (p := ⟨b, _, none⟩) hb).trans (hc 0 _ rfl);have c1 := (hbel.cell (p := ⟨b, _, none⟩) hb).trans (hc 1 _ rfl);have c2 := (hbel.cell (p := ⟨b, _, none⟩) hb).trans (hc 2 _ rfl);have c3 := (hbel.cell (p := ⟨b, _, none⟩) hb).trans (hc 3 _ rfl);have c4 := (hbel.cell (p := ⟨b, _, none⟩) hb).trans (hc 4 _ rfl);have c5 := (hbel.cell (p := ⟨b, _, none⟩) hb).trans (hc 5 _ rfl);simp only [Nat.add_zero] at c0;have hnk := Lib.hid (zmr hx);have hkl : (keysOf (l.take k)).length = k := by unfold keysOf; rw [List.length_map, List.length_take]; exact Nat.min_eq_left (Nat.le_trans hk (by rw [hll]; exact Nat.le_refl _))
    have hkl2 : (keysOf (l.take k)).length + 1 ≤ 100 := by rw [hkl]; exact Nat.le_trans (Nat.succ_le_succ (Nat.le_trans hk h60n)) (by decide)
    obtain ⟨K, hK⟩ : ∃ K, K = keysOf (l.take k) := ⟨_, rfl⟩;rw [← hK] at hT hkl hkl2 hnk;clear hc hx hK hkl;have hTA := hT.alloc (.cells #[.int .i64 y0, .int .i64 y1, .int .i64 y2, .string y3, .string y4, .int .i64 y5] 53);have hbA := hbel.alloc hB (.cells #[.int .i64 y0, .int .i64 y1, .int .i64 y2, .string y3, .string y4, .int .i64 y5] 53);go_wp2_with (first
     | (at_builtin; refine wpList_append_own _ rfl (.tmp 48) (.tmp 51) 116 rfl w3.heap.size 9 i0 (.string ⟨#[]⟩) 1 16 Tryz.underlying116 hi hz0 hz1 hz2 rfl (by decide) u9 K.length (K.map Value.string) rfl (hTA.alloc _) ⟨wr.heap.size + 1, 0, none⟩ 1 1 [.string y3] rfl (by simp) (by have h := zby (wr.alloc (.cells #[.int .i64 y0, .int .i64 y1, .int .i64 y2, .string y3, .string y4, .int .i64 y5] 53)) (.string y3) 9; simpa using h) (by intro u hu; simp at hu; subst hu; rfl) (Nat.le_trans hkl2 (by decide)) (Nat.le_trans (Nat.mul_le_mul_right 16 hkl2) (by decide)) (Nat.le_trans hbA.size (by simp)) ?_; intro v9 wE hT2 hg2 _; have hbE := zaj (hbA.alloc hbA.size _) hg2 (Nat.le_trans hbA.size (by simp)) (hTA.alloc _); have hT3 := ybw rfl hT2))
    go_roundw
    case rel => exact ⟨k + 1, hlt, by go_num, by rw [hnk.out]; exact hT3, hbE⟩
    case measure => exact zbx hlt
   ·obtain rfl : k = n'' := Nat.le_antisymm hk (Nat.not_lt.1 hlt);have hTl : l.take k = l := List.take_of_length_le (by rw [hll]; exact Nat.le_refl _);rw [hTl] at hT;have hKl : (keysOf l).length = k := by unfold keysOf; rw [List.length_map]; exact hll
    rw [hKl] at hT;obtain ⟨A9, c9, rfl⟩ := zah hT;have hS9 := Strs.zbf hT;have hwr : ∀ x ∈ l, zao x = 0 := fun x hx => by
     obtain ⟨j, hj, e⟩ := List.mem_iff_getElem.1 hx;exact (BA.out j x (by rw [List.getElem?_eq_getElem hj, e])).1
    have hK9 : k ≤ 1000 := Nat.le_trans h60n (by decide);have hks := Lib.hid (zpr hwr);have hksz := yij hwr;clear hwr;obtain ⟨jd1, jd2⟩ := zha (Nat.lt_irrefl k);have hb3r := b3.trans (hbel.mono b3.size);replace q1 := (hbel.cell (cell_lt q1)).trans q1;replace q2 := (hbel.cell (cell_lt q2)).trans q2;go_wp2_with fail;refine (Keys.table_any k c9 A9 (keysOf l) _ hS9 hK9 hksz).mono ?_;rintro e w4 ⟨v4, v5, rfl, ho4, ho5, hb4⟩;have b4 := hb3r.trans (hb4.mono hb3r.size);replace q1 := (hb4.cell (cell_lt q1)).trans q1;replace q2 := (hb4.cell (cell_lt q2)).trans q2;have sl4 := (sl3.grow hbel).grow hb4;have eh4 := (eh3.grow hbel).grow hb4;have htl := Keys.zkl (keysOf l);obtain ⟨T, hTT⟩ : ∃ T, T = (Keys.tab (keysOf l)).1 := ⟨_, rfl⟩;obtain ⟨I, hII⟩ : ∃ I, I = (Keys.tab (keysOf l)).2 := ⟨_, rfl⟩;have hBB := Lib.hid (ztw (f := f) (h := h) hTT hII);rw [← hTT] at ho4 htl hks;rw [← hII] at ho5 htl;obtain ⟨t1, t2, _, _⟩ := htl;rw [hKl] at t1 t2;have HI := Lib.hid hII;clear hTT hII hT hS9 hksz hb4 hbel sl3 eh3 hTl jd1 jd2 hb3r b3 hKl;obtain ⟨A4, cap4, rfl⟩ := zah ho4;obtain ⟨A5, cap5, rfl⟩ := zah ho5;have s4 := Strs.zbf ho4;have s5 := Ints.zbf ho5;clear ho4 ho5;have hT60 : T.length ≤ 60 := Nat.le_trans t1 h60n;have U4 := u64_in (G := T.length) (Nat.le_trans hT60 (by decide));have lf := zio (show (zaf f).1 = 0 from (zbq HB.out).2.1);have lh := zio (show (zaf h).1 = 0 from (zbq HB.out).2.2.1);have f1 := zlb (A := zbt f) (B := zbt h) (Nat.le_trans lf (by decide)) (Nat.le_trans lh (by decide));have f2 := zbl (zbt f) (zbt h);go_wp2_with fail;refine (zbm T.length _ (Nat.lt_of_le_of_lt hT60 (by decide))).mono ?_;rintro y w5 ⟨rfl, hb5⟩;rw [show (⟨(vput T.length).toArray⟩ : ByteArray) = strOf (vput T.length) from rfl];have l3 := zae (n := T.length) (Nat.lt_of_le_of_lt hT60 (by decide));have hO1 : (zbt f ++ zbt h).length ≤ 1300 := by rw [List.length_append]; exact Nat.add_le_add lf lh
    have f3 := zlb (A := zbt f ++ zbt h) (B := vput T.length) (Nat.le_trans hO1 (by decide)) (Nat.le_trans l3 (by decide));have f4 := zbl (zbt f ++ zbt h) (vput T.length);obtain ⟨O, hO⟩ : ∃ O, O = zbt f ++ zbt h ++ vput T.length := ⟨_, rfl⟩;have hOl : O.length ≤ 1310 := by rw [hO, List.length_append]; exact Nat.add_le_add hO1 l3
    rw [← hO] at f4 hBB;have b5 := b4.trans (hb5.mono b4.size);replace q1 := (hb5.cell (cell_lt q1)).trans q1;replace q2 := (hb5.cell (cell_lt q2)).trans q2;have sl5 := sl4.grow hb5;have eh5 := eh4.grow hb5;replace s4 := Sl.grow s4 hb5;replace s5 := Sl.grow s5 hb5;clear hb5 sl4 eh4 b4 hO1 l3 U4 lf lh hO;go_wp2_with fail;try rw [f4]
    clear f1 f2 f3 f4;go_loopw [14, 16, 17, 18, 69] (fun ov _ _ _ jv wx => ∃ j : Nat, j ≤ T.length ∧ jv = .int .i64 j ∧ ov = .string (strOf (O ++ zdg (T.take j))) ∧ Below w5.heap.size w5 wx) (fun _ _ _ _ jv _ => T.length - (intOf jv).toNat)
    case atStart => exact ⟨0, Nat.zero_le _, rfl, by simp [zdg], Below.refl _ _⟩
    case round =>
     obtain ⟨j, hj, rfl, rfl, hbx⟩ := hrel;have hBx := hbx.size;by_cases hjm : j < T.length
     ·obtain ⟨tb, tq, x, rfl, htb, hx, hc⟩ := zfj Value.string s4 rfl hjm;have c0 := (hbx.cell (p := ⟨tb, tq + j, none⟩) htb).trans hc;have hx40 := hks.out x (List.mem_of_getElem? hx);have hkt := Lib.hid (zna hx);obtain ⟨f1, f2, f3, f4⟩ := ztj (O := O) (T := T) (j := j) hks.out hT60 hOl hx40;have jn : (0 : Int) ≤ (j : Int) ∧ (j : Int) < (T.length : Int) := ⟨Int.natCast_nonneg j, Int.ofNat_lt.2 hjm⟩;obtain ⟨jw1, jw2⟩ := zqv (j := j) (Nat.le_trans hj hT60);obtain ⟨jd1, jd2⟩ := zgv hjm;have F1 := Lib.hid f1;clear hx hc f1;go_wp2_with fail;refine (zjd x _ f4).mono ?_;rintro e w6 ⟨rfl, hb6⟩;rw [F1.out];have hbx6 := hbx.trans (hb6.mono hBx);go_wp2_with fail;go_roundw
      case rel => exact ⟨j + 1, hjm, by first | rfl | (congr 1), by first | (rw [hkt.out, ← List.append_assoc]; done) | (rw [hkt.out, ← List.append_assoc, f3]), hbx6⟩
      case measure => exact zbx hjm
     ·obtain rfl : j = T.length := Nat.le_antisymm hj (Nat.not_lt.1 hjm);rw [List.take_length];replace q1 := (hbx.cell (cell_lt q1)).trans q1;replace q2 := (hbx.cell (cell_lt q2)).trans q2;have b6 := b5.trans (hbx.mono b5.size);have sl6 := sl5.grow hbx;have eh6 := eh5.grow hbx;have s6 := Sl.grow s5 hbx;have U5 := u64_in (G := k) (Nat.le_trans h60n (by decide));obtain ⟨jd1, jd2⟩ := zha (Nat.lt_irrefl T.length);have lK := zks hks.out;clear hbx sl5 eh5 s5 s4 b5;go_wp2_with fail;refine (zbm k _ (Nat.lt_of_le_of_lt h60n (by decide))).mono ?_;rintro y w7 ⟨rfl, hb7⟩;rw [show (⟨(vput k).toArray⟩ : ByteArray) = strOf (vput k) from rfl];obtain ⟨f5, f6, lO2⟩ := zww hT60 hOl lK h60n;obtain ⟨O2, hO2⟩ : ∃ O2, O2 = O ++ zdg T ++ vput k := ⟨_, rfl⟩;rw [← hO2] at f6 lO2;have HO2 := Lib.hid hO2;replace q1 := (hb7.cell (cell_lt q1)).trans q1;replace q2 := (hb7.cell (cell_lt q2)).trans q2;have b7 := b6.trans (hb7.mono b6.size);have sl7 := sl6.grow hb7;have eh7 := eh6.grow hb7;have s7 := Sl.grow s6 hb7;clear hb7 sl6 eh6 s6 b6 U5 jd1 jd2 lK hO2;go_wp2_with fail;try rw [f6]
      clear f5 f6;go_loopw [14, 19, 20, 21, 22, 23, 92] (fun ov tv _ _ _ _ iv wx => ∃ i : Nat, i ≤ k ∧ iv = .int .i64 i ∧ ov = .string (strOf (O2 ++ zbz h I (l.take i) 0 0)) ∧ tv = .int .i64 (ziz l i) ∧ Hid ((zbz h I (l.take i) 0 0).length ≤ 400 * i) ∧ Below w7.heap.size w7 wx) (fun _ _ _ _ _ _ iv _ => k - (intOf iv).toNat)
      case atStart => exact ⟨0, Nat.zero_le _, rfl, by simp [zbz], by simp [ziz, zda], Lib.hid (by simp [zbz]), Below.refl _ _⟩
      case round =>
       obtain ⟨i, hi2, rfl, rfl, rfl, hwl, hbx⟩ := hrel;have HWL := Lib.hid hwl.out;have hBx := hbx.size;by_cases hik : i < k
       ·obtain ⟨wb, wo, y, rfl, hwb, hx, hc⟩ := zvh sl7 hik;obtain ⟨y0, y1, y2, y3, y4, y5⟩ := y;have c0 := (hbx.cell (p := ⟨wb, _, none⟩) hwb).trans (hc 0 _ rfl);have c1 := (hbx.cell (p := ⟨wb, _, none⟩) hwb).trans (hc 1 _ rfl);have c2 := (hbx.cell (p := ⟨wb, _, none⟩) hwb).trans (hc 2 _ rfl);have c3 := (hbx.cell (p := ⟨wb, _, none⟩) hwb).trans (hc 3 _ rfl);have c4 := (hbx.cell (p := ⟨wb, _, none⟩) hwb).trans (hc 4 _ rfl);have c5 := (hbx.cell (p := ⟨wb, _, none⟩) hwb).trans (hc 5 _ rfl);simp only [Nat.add_zero] at c0;have HX := Lib.hid hx;have hW := WrAt.new wr y0 y1 y2 y3 y4 y5;have bA := zaa wr (wrO y0 y1 y2 y3 y4 y5);clear hc hx;go_wp2_with fail;refine (ygb (y0, y1, y2, y3, y4, y5) _).mono ?_;rintro e w8 ⟨rfl, hb8⟩;obtain ⟨k0, k1, k2, k3, k4, k5⟩ := hW.below hb8;have hb78 := hbx.trans ((bA.trans (hb8.mono bA.size)).mono hBx);obtain ⟨hwt, ⟨tt, hmem⟩, p0, p1⟩ := BA.out i _ HX.out;simp only at hmem p1;obtain ⟨tm, htm⟩ : ∃ tm, tm = ziz l i := ⟨_, rfl⟩;rw [← htm] at p0 p1 ⊢;have HTM := Lib.hid htm;clear htm;obtain ⟨ab, ao, at_, rfl, hab, hxa, hca⟩ := zfj (Value.int .i64) s7 rfl (by rw [t2]; exact hik);obtain ⟨OUT, hOUT⟩ : ∃ OUT, OUT = strOf (O2 ++ zbz h I (l.take i) 0 0) := ⟨_, rfl⟩;obtain ⟨S5, hS5⟩ : ∃ S, S = strOf [UInt8.ofNat y2.toNat] := ⟨_, rfl⟩;obtain ⟨G, hG1⟩ := Int.eq_ofNat_of_zero_le (show 0 ≤ y0 - tm from Int.sub_nonneg_of_le p1);obtain ⟨PL, hPL⟩ : ∃ PL, PL = placeOf h y1 := ⟨_, rfl⟩;have hAI := ydm (keysOf l) at_ (by rw [← HI.out]; exact List.mem_of_getElem? hxa);have hA60 : at_ ≤ 60 := Int.le_trans hAI.2 (by rw [zwo, hll]; exact Int.ofNat_le.2 h60n);obtain ⟨AT, hAT⟩ := Int.eq_ofNat_of_zero_le hAI.1;subst hAT;obtain ⟨⟨lG, lP, lA⟩, ⟨UG, UP, UA⟩, wG, U8, hy0, hy1⟩ := zys hwt p0 hG1 hPL hmem (zbu (zbq HB.out).2.2.1) hA60;have iN : (0 : Int) ≤ (i : Int) ∧ (i : Int) < (k : Int) := ⟨Int.natCast_nonneg i, Int.ofNat_lt.2 hik⟩;obtain ⟨SG, hSG⟩ : ∃ S, S = (⟨(vput G).toArray⟩ : ByteArray) := ⟨_, rfl⟩;obtain ⟨SP, hSP⟩ : ∃ S, S = (⟨(vput PL).toArray⟩ : ByteArray) := ⟨_, rfl⟩;obtain ⟨SA, hSA⟩ : ∃ S, S = (⟨(vput AT).toArray⟩ : ByteArray) := ⟨_, rfl⟩;obtain ⟨TL, hTL⟩ : ∃ T, T = (zlm (y0, y1, y2, y3, y4, y5)).1 := ⟨_, rfl⟩;obtain ⟨z1, z2, z3, z4, z5⟩ := ybf hwt lG lP lA hOUT hS5 hSG hSP hSA hTL lO2 (Nat.le_trans hwl.out (Nat.mul_le_mul_left 400 (Nat.le_trans hi2 h60n)));have ac := (hb78.cell (p := ⟨ab, ao + i, none⟩) hab).trans hca;have q1' := (hb78.cell (cell_lt q1)).trans q1;have eh8 := eh7.grow hb78;have HWT := Lib.hid hwt;have HXA := Lib.hid hxa;have HCA := Lib.hid hA60;clear hca hwt hxa hA60 hAI hwl;rw [← hOUT, ← hTL];have HOUT := Lib.hid hOUT;have HS5 := Lib.hid hS5;have HTL := Lib.hid hTL;clear hOUT hTL;go_wp2_with fail
        -- FLOWB
        refine Flow.zgy (by kernel_rfl) (by kernel_rfl) (by kernel_rfl) 144 rfl (by kernel_rfl) (ykt w.heap.size wr.heap.size OUT S5 SG SP SA TL y0 y1 y2 tm G PL AT A' n' c' ab ao k cap5 i) (fun g L wz => BI w8 y2 g (L 0) (L 4) (L 33) wz) 0 ⟨(Below.refl _ _).drew, fun h => (by cases h), fun h => (by cases h)⟩ ⟨?_, ?_, ?_, ?_, ?_, ?_, ?_, ?_, ?_, ?_, ?_, ?_, ?_, ?_, ?_, ?_, ?_, ?_, ?_, ?_, ?_, ?_, ?_, ?_, ?_, ?_, ?_, ?_, ?_, ?_, ?_, ?_, ?_, ?_, trivial⟩ ?_
        ·intro g L wz K ρ hc0 hf0 hF hO hNo hi hd hC hK;have h33 : L 33 = false := hC.no33 hi;have e14 : ρ (.tmp 14) = .string OUT := hNo 14 33 (by kernel_rfl) h33;simp [go_sem, hc0, hf0, e14];exact hK g wz ⟨hC.bel, hC.tmp, fun _ => rfl⟩ (fun _ _ => rfl)
        ·intro g L wz K ρ hc0 hf0 hF hO hNo hi hd hC hK;have e21 : ρ (.tmp 21) = .pointer (some ⟨wr.heap.size, 0, none⟩) := hO 21 (by kernel_rfl);simp [go_sem, hc0, hf0, e21];exact hK g wz hC (fun _ _ => rfl)
        ·intro g L wz K ρ hc0 hf0 hF hO hNo hi hd hC hK;have d1 : L 1 = true := hd ⟨1, .data⟩ (by simp) rfl;have e103 : ρ (.tmp 103) = .pointer (some ⟨wr.heap.size, 2, none⟩) := hF 103 1 (by kernel_rfl) d1;have cc := (hC.bel.cell (cell_lt k2)).trans k2;simp [go_sem, hc0, hf0, e103, cc];exact hK g wz hC (fun _ _ => rfl)
        ·intro g L wz K ρ hc0 hf0 hF hO hNo hi hd hC hK;have d2 : L 2 = true := hd ⟨2, .data⟩ (by simp) rfl;have e104 : ρ (.tmp 104) = .int .i64 y2 := hF 104 2 (by kernel_rfl) d2;simp [go_sem, hc0, hf0, e104, U8];exact hK g wz hC (fun _ _ => rfl)
        ·intro g L wz K ρ hc0 hf0 hF hO hNo hi hd hC hK;have d3 : L 3 = true := hd ⟨3, .data⟩ (by simp) rfl;have e105 : ρ (.tmp 105) = .int .u8 y2 := hF 105 3 (by kernel_rfl) d3;simp [go_sem, hc0, hf0, e105];refine hK wz.heap.size _ ?_ ?_
         ·exact hC.build
         ·intro j hj; unfold ykt; split <;> first | rfl | (rw [hi] at hj; cases hj)
        ·intro g L wz K ρ hc0 hf0 hF hO hNo hi hd hC hK;have d4 : L 4 = true := hd ⟨4, .data⟩ (by simp) rfl;have e106 : ρ (.tmp 106) = .slice (some ⟨g, 0, none⟩) 1 1 := hF 106 4 (by kernel_rfl) d4;have hst := hC.str (P := Tryz.prog) d4 HS5.out hy0 hy1 61 5 9 Tryz.underlying61 Tryz.underlying5 Tryz.underlying9;simp [go_sem, hc0, hf0, e106, hst];exact hK g wz hC (fun _ _ => rfl)
        ·intro g L wz K ρ hc0 hf0 hF hO hNo hi hd hC hK;have e21 : ρ (.tmp 21) = .pointer (some ⟨wr.heap.size, 0, none⟩) := hO 21 (by kernel_rfl);simp [go_sem, hc0, hf0, e21];exact hK g wz hC (fun _ _ => rfl)
        ·intro g L wz K ρ hc0 hf0 hF hO hNo hi hd hC hK;have d6 : L 6 = true := hd ⟨6, .data⟩ (by simp) rfl;have e108 : ρ (.tmp 108) = .pointer (some ⟨wr.heap.size, 0, none⟩) := hF 108 6 (by kernel_rfl) d6;simp [go_sem, hc0, hf0, e108];exact hK g wz hC (fun _ _ => rfl)
        ·intro g L wz K ρ hc0 hf0 hF hO hNo hi hd hC hK;have d7 : L 7 = true := hd ⟨7, .data⟩ (by simp) rfl;have e109 : ρ (.tmp 109) = .pointer (some ⟨wr.heap.size, 0, none⟩) := hF 109 7 (by kernel_rfl) d7;have cc := (hC.bel.cell (cell_lt k0)).trans k0;simp [go_sem, hc0, hf0, e109, cc];exact hK g wz hC (fun _ _ => rfl)
        ·intro g L wz K ρ hc0 hf0 hF hO hNo hi hd hC hK;have e19 : ρ (.tmp 19) = .int .i64 tm := hO 19 (by kernel_rfl);simp [go_sem, hc0, hf0, e19];exact hK g wz hC (fun _ _ => rfl)
        ·intro g L wz K ρ hc0 hf0 hF hO hNo hi hd hC hK;have d8 : L 8 = true := hd ⟨8, .data⟩ (by simp) rfl;have d9 : L 9 = true := hd ⟨9, .data⟩ (by simp) rfl;have e110 : ρ (.tmp 110) = .int .i64 y0 := hF 110 8 (by kernel_rfl) d8;have e111 : ρ (.tmp 111) = .int .i64 tm := hF 111 9 (by kernel_rfl) d9;simp [go_sem, hc0, hf0, e110, e111, hG1, wG];exact hK g wz hC (fun _ _ => rfl)
        ·intro g L wz K ρ hc0 hf0 hF hO hNo hi hd hC hK;have d10 : L 10 = true := hd ⟨10, .data⟩ (by simp) rfl;have e112 : ρ (.tmp 112) = .int .i64 (G : Int) := hF 112 10 (by kernel_rfl) d10;simp [go_sem, hc0, hf0, e112, UG];exact hK g wz hC (fun _ _ => rfl)
        ·intro g L wz K ρ hc0 hf0 hF hO hNo hi hd hC hK;have d11 : L 11 = true := hd ⟨11, .data⟩ (by simp) rfl;have e113 : ρ (.tmp 113) = .int .u64 (G : Int) := hF 113 11 (by kernel_rfl) d11;simp [go_sem, hc0, hf0, e113];refine (zbm G wz lG).mono ?_;rintro r wn ⟨rfl, hbn⟩;rw [← hSG];exact ⟨_, rfl, hK g wn (hC.grow hbn) (fun _ _ => rfl)⟩
        ·intro g L wz K ρ hc0 hf0 hF hO hNo hi hd hC hK;have d5 : L 5 = true := hd ⟨5, .data⟩ (by simp) rfl;have d12 : L 12 = true := hd ⟨12, .data⟩ (by simp) rfl;have e107 : ρ (.tmp 107) = .string S5 := hF 107 5 (by kernel_rfl) d5;have e114 : ρ (.tmp 114) = .string SG := hF 114 12 (by kernel_rfl) d12;simp [go_sem, hc0, hf0, e107, e114, z1];exact hK g wz hC (fun _ _ => rfl)
        ·intro g L wz K ρ hc0 hf0 hF hO hNo hi hd hC hK;have e1 : ρ (.tmp 1) = .pointer (some ⟨w.heap.size, 0, none⟩) := hO 1 (by kernel_rfl);simp [go_sem, hc0, hf0, e1];exact hK g wz hC (fun _ _ => rfl)
        ·intro g L wz K ρ hc0 hf0 hF hO hNo hi hd hC hK;have d14 : L 14 = true := hd ⟨14, .data⟩ (by simp) rfl;have e116 : ρ (.tmp 116) = .pointer (some ⟨w.heap.size, 1, none⟩) := hF 116 14 (by kernel_rfl) d14;have cc := (hC.bel.cell (cell_lt q1')).trans q1';simp [go_sem, hc0, hf0, e116, cc];exact hK g wz hC (fun _ _ => rfl)
        ·intro g L wz K ρ hc0 hf0 hF hO hNo hi hd hC hK;have e21 : ρ (.tmp 21) = .pointer (some ⟨wr.heap.size, 0, none⟩) := hO 21 (by kernel_rfl);simp [go_sem, hc0, hf0, e21];exact hK g wz hC (fun _ _ => rfl)
        ·intro g L wz K ρ hc0 hf0 hF hO hNo hi hd hC hK;have d16 : L 16 = true := hd ⟨16, .data⟩ (by simp) rfl;have e118 : ρ (.tmp 118) = .pointer (some ⟨wr.heap.size, 0, none⟩) := hF 118 16 (by kernel_rfl) d16;simp [go_sem, hc0, hf0, e118];exact hK g wz hC (fun _ _ => rfl)
        ·intro g L wz K ρ hc0 hf0 hF hO hNo hi hd hC hK;have d17 : L 17 = true := hd ⟨17, .data⟩ (by simp) rfl;have e119 : ρ (.tmp 119) = .pointer (some ⟨wr.heap.size, 1, none⟩) := hF 119 17 (by kernel_rfl) d17;have cc := (hC.bel.cell (cell_lt k1)).trans k1;simp [go_sem, hc0, hf0, e119, cc];exact hK g wz hC (fun _ _ => rfl)
        ·intro g L wz K ρ hc0 hf0 hF hO hNo hi hd hC hK;have d15 : L 15 = true := hd ⟨15, .data⟩ (by simp) rfl;have d18 : L 18 = true := hd ⟨18, .data⟩ (by simp) rfl;have e117 : ρ (.tmp 117) = .slice A' n' c' := hF 117 15 (by kernel_rfl) d15;have e120 : ρ (.tmp 120) = .int .i64 y1 := hF 120 18 (by kernel_rfl) d18;simp [go_sem, hc0, hf0, e117, e120];refine (zyx wz n' c' A' h y1 tt (eh8.grow hC.bel) nh hmem).mono ?_;rintro r wn ⟨rfl, hbn⟩;rw [← hPL];exact ⟨_, rfl, hK g wn (hC.grow hbn) (fun _ _ => rfl)⟩
        ·intro g L wz K ρ hc0 hf0 hF hO hNo hi hd hC hK;have d19 : L 19 = true := hd ⟨19, .data⟩ (by simp) rfl;have e121 : ρ (.tmp 121) = .int .i64 (PL : Int) := hF 121 19 (by kernel_rfl) d19;simp [go_sem, hc0, hf0, e121, UP];exact hK g wz hC (fun _ _ => rfl)
        ·intro g L wz K ρ hc0 hf0 hF hO hNo hi hd hC hK;have d20 : L 20 = true := hd ⟨20, .data⟩ (by simp) rfl;have e122 : ρ (.tmp 122) = .int .u64 (PL : Int) := hF 122 20 (by kernel_rfl) d20;simp [go_sem, hc0, hf0, e122];refine (zbm PL wz lP).mono ?_;rintro r wn ⟨rfl, hbn⟩;rw [← hSP];exact ⟨_, rfl, hK g wn (hC.grow hbn) (fun _ _ => rfl)⟩
        ·intro g L wz K ρ hc0 hf0 hF hO hNo hi hd hC hK;have d13 : L 13 = true := hd ⟨13, .data⟩ (by simp) rfl;have d21 : L 21 = true := hd ⟨21, .data⟩ (by simp) rfl;have e115 : ρ (.tmp 115) = .string (S5 ++ SG) := hF 115 13 (by kernel_rfl) d13;have e123 : ρ (.tmp 123) = .string SP := hF 123 21 (by kernel_rfl) d21;simp [go_sem, hc0, hf0, e115, e123, z2];exact hK g wz hC (fun _ _ => rfl)
        ·intro g L wz K ρ hc0 hf0 hF hO hNo hi hd hC hK;have e13 : ρ (.tmp 13) = .slice (some ⟨ab, ao, none⟩) k cap5 := hO 13 (by kernel_rfl);simp [go_sem, hc0, hf0, e13];exact hK g wz hC (fun _ _ => rfl)
        ·intro g L wz K ρ hc0 hf0 hF hO hNo hi hd hC hK;have e20 : ρ (.tmp 20) = .int .i64 (i : Int) := hO 20 (by kernel_rfl);simp [go_sem, hc0, hf0, e20];exact hK g wz hC (fun _ _ => rfl)
        ·intro g L wz K ρ hc0 hf0 hF hO hNo hi hd hC hK;have d23 : L 23 = true := hd ⟨23, .data⟩ (by simp) rfl;have d24 : L 24 = true := hd ⟨24, .data⟩ (by simp) rfl;have e125 : ρ (.tmp 125) = .slice (some ⟨ab, ao, none⟩) k cap5 := hF 125 23 (by kernel_rfl) d23;have e126 : ρ (.tmp 126) = .int .i64 (i : Int) := hF 126 24 (by kernel_rfl) d24;simp [go_sem, hc0, hf0, e125, e126, iN];exact hK g wz hC (fun _ _ => rfl)
        ·intro g L wz K ρ hc0 hf0 hF hO hNo hi hd hC hK;have d25 : L 25 = true := hd ⟨25, .data⟩ (by simp) rfl;have e127 : ρ (.tmp 127) = .pointer (some ⟨ab, ao + i, none⟩) := hF 127 25 (by kernel_rfl) d25;have cc := (hC.bel.cell (cell_lt ac)).trans ac;simp [go_sem, hc0, hf0, e127, cc];exact hK g wz hC (fun _ _ => rfl)
        ·intro g L wz K ρ hc0 hf0 hF hO hNo hi hd hC hK;have d26 : L 26 = true := hd ⟨26, .data⟩ (by simp) rfl;have e128 : ρ (.tmp 128) = .int .i64 (AT : Int) := hF 128 26 (by kernel_rfl) d26;simp [go_sem, hc0, hf0, e128, UA];exact hK g wz hC (fun _ _ => rfl)
        ·intro g L wz K ρ hc0 hf0 hF hO hNo hi hd hC hK;have d27 : L 27 = true := hd ⟨27, .data⟩ (by simp) rfl;have e129 : ρ (.tmp 129) = .int .u64 (AT : Int) := hF 129 27 (by kernel_rfl) d27;simp [go_sem, hc0, hf0, e129];refine (zbm AT wz lA).mono ?_;rintro r wn ⟨rfl, hbn⟩;rw [← hSA];exact ⟨_, rfl, hK g wn (hC.grow hbn) (fun _ _ => rfl)⟩
        ·intro g L wz K ρ hc0 hf0 hF hO hNo hi hd hC hK;have d22 : L 22 = true := hd ⟨22, .data⟩ (by simp) rfl;have d28 : L 28 = true := hd ⟨28, .data⟩ (by simp) rfl;have e124 : ρ (.tmp 124) = .string (S5 ++ SG ++ SP) := hF 124 22 (by kernel_rfl) d22;have e130 : ρ (.tmp 130) = .string SA := hF 130 28 (by kernel_rfl) d28;simp [go_sem, hc0, hf0, e124, e130, z3];exact hK g wz hC (fun _ _ => rfl)
        ·intro g L wz K ρ hc0 hf0 hF hO hNo hi hd hC hK;have e22 : ρ (.tmp 22) = .string TL := hO 22 (by kernel_rfl);simp [go_sem, hc0, hf0, e22];exact hK g wz hC (fun _ _ => rfl)
        ·intro g L wz K ρ hc0 hf0 hF hO hNo hi hd hC hK;have d29 : L 29 = true := hd ⟨29, .data⟩ (by simp) rfl;have d30 : L 30 = true := hd ⟨30, .data⟩ (by simp) rfl;have e131 : ρ (.tmp 131) = .string (S5 ++ SG ++ SP ++ SA) := hF 131 29 (by kernel_rfl) d29;have e132 : ρ (.tmp 132) = .string TL := hF 132 30 (by kernel_rfl) d30;simp [go_sem, hc0, hf0, e131, e132, z4];exact hK g wz hC (fun _ _ => rfl)
        ·intro g L wz K ρ hc0 hf0 hF hO hNo hi hd hC hK;have d0 : L 0 = true := hd ⟨0, .data⟩ (by simp) rfl;have d31 : L 31 = true := hd ⟨31, .data⟩ (by simp) rfl;have e102 : ρ (.tmp 102) = .string OUT := hF 102 0 (by kernel_rfl) d0;have e133 : ρ (.tmp 133) = .string (S5 ++ SG ++ SP ++ SA ++ TL) := hF 133 31 (by kernel_rfl) d31;simp [go_sem, hc0, hf0, e102, e133, z5];exact hK g wz hC (fun _ _ => rfl)
        ·intro g L wz K ρ hc0 hf0 hF hO hNo hi hd hC hK;have d32 : L 32 = true := hd ⟨32, .data⟩ (by simp) rfl;have d0 : L 0 = true := hd ⟨0, .phase⟩ (by simp) rfl;have e134 : ρ (.tmp 134) = .string (OUT ++ (S5 ++ SG ++ SP ++ SA ++ TL)) := hF 134 32 (by kernel_rfl) d32;simp [go_sem, hc0, hf0, e134];exact hK g wz ⟨hC.bel, hC.tmp, fun _ => d0⟩ (fun _ _ => rfl)
        ·intro g L wz hL hC;have hbF := hC.bel;simp only [Flow.zbs, ykt];have k0' := (hC.bel.cell (cell_lt k0)).trans k0;go_wp2;go_roundw
         case rel => exact ⟨i + 1, hik, by go_num, by rw [HOUT.out, HTL.out, ← hPL]; exact congrArg Value.string (yfg HX.out HWT.out HTM.out hG1 hPL HXA.out), by rw [zpe HX.out], Lib.hid (yjk HX.out HWT.out hmem (zbu (zbq HB.out).2.2.1) HXA.out HCA.out (by rw [← HTM.out]; exact p0) HWL.out), hb78.trans (hbF.mono hb78.size)⟩
         case measure => exact zbx hik
        -- ENDB
       ·obtain rfl : i = k := Nat.le_antisymm hi2 (Nat.not_lt.1 hik);have hTk : l.take i = l := List.take_of_length_le (by rw [hll]; exact Nat.le_refl _);have hE : O2 ++ zbz h I l 0 0 = zew f h l := by rw [hBB.out, HO2.out, hll]
        rw [hTk, hE];obtain ⟨jd1, jd2⟩ := zha (Nat.lt_irrefl i);have bF := b7.trans (hbx.mono b7.size);have hs : (strOf (zew f h l)).size = (zew f h l).length := zas _;clear hTk hE;obtain ⟨BY, hBY⟩ : ∃ B, B = strOf (zew f h l) := ⟨_, rfl⟩;rw [← hBY] at hs ⊢;have HBY := Lib.hid hBY;clear hBY;by_cases hbig : 20000 < (zew f h l).length
        ·have hr := Lib.hid (zoa HB.out hbig);obtain ⟨d0, d1⟩ := ycl (hs ▸ hbig);clear hs hbig;go_wp2;go_ret2;exact ⟨_, by rw [hr.out]; rfl, by rw [hr.out]; exact .bare 4 (by decide), bF⟩
        ·have hr := Lib.hid (zmj HB.out hbig);obtain ⟨d0, d1⟩ := yis (hs ▸ hbig);clear hs hbig;go_wp2;go_ret2;exact ⟨_, by rw [hr.out, HBY.out]; rfl, by rw [hr.out]; exact .none, bF⟩
 ·have hr := Lib.hid (zpk hbad);obtain ⟨q0, q1, q2⟩ := hbx;unfold zav.v;go_enter Tryz.func43, Tryz.ntmps43;go_wp2_with fail;refine (zif _ x hb0 hf hh hg0).mono ?_;rintro e w1 ⟨v1, rfl, hv1, hb1⟩;obtain ⟨ty, u, rfl⟩ := zgo hv1 hbad;have HV := Lib.hid hv1;clear hv1 hbad;go_wp2;go_ret2;rw [hr.out];exact ⟨_, rfl, HV.out, b0.trans (hb1.mono b0.size)⟩
end Go.Proofs.YtkejlnjnoiidnaaGreatDoor
end

section
namespace Go.Proofs.YtkejlnjnoiidnaaGreatDoor
open Tokens
theorem zke {s : ByteArray} (h : s.size ≤ 20000) : (zca s).2 = (0, -1) := by
 rw [zkr (by omega)];unfold zgx;rw [if_neg (by rw [zuj h]; simp)]
def zos (s : ByteArray) : ByteArray :=
 if (zca s).1.size < s.size then ((⟨#[80, 84, 3]⟩ ++ ⟨#[1]⟩) ++ ⟨(vput s.size).toArray⟩) ++ (zca s).1 else ((⟨#[80, 84, 3]⟩ ++ ⟨#[0]⟩) ++ ⟨(vput s.size).toArray⟩) ++ s
def zcl (b : ByteArray × Int × Int) : ByteArray × Int × Int := if b.2.1 ≠ 0 then (⟨#[]⟩, b.2) else (zed (zos b.1), b.2)
theorem zmn {t : ByteArray} {e p : Int} (h : e ≠ 0) : zcl (t, e, p) = (⟨#[]⟩, e, p) := by unfold zcl; rw [if_pos h]
theorem zle {t : ByteArray} {p : Int} : zcl (t, 0, p) = (zed (zos t), 0, p) := by unfold zcl; rw [if_neg (by simp)]
theorem zns {s : ByteArray} (h : (zca s).1.size < s.size) : zos s = ((⟨#[80, 84, 3]⟩ ++ ⟨#[1]⟩) ++ ⟨(vput s.size).toArray⟩) ++ (zca s).1 := by unfold zos; rw [if_pos h]
theorem zmf {s : ByteArray} (h : ¬ (zca s).1.size < s.size) : zos s = ((⟨#[80, 84, 3]⟩ ++ ⟨#[0]⟩) ++ ⟨(vput s.size).toArray⟩) ++ s := by unfold zos; rw [if_neg h]
theorem znd {f h : List Ent} {l : List Wr} {t : ByteArray} {e p : Int} (hb : zcb f h l = (t, e, p)) : t.size ≤ 20000 ∧ (e = 0 → p = -1) := by
 unfold zcb at hb;split at hb
 ·injection hb with h1 h2
  rename_i hne;exact ⟨by rw [← h1]; exact Nat.zero_le _, fun h0 => absurd (by rw [h2]; exact h0) hne⟩
 ·split at hb
  ·injection hb with h1 h2
   injection h2 with h2 h3
   exact ⟨by rw [← h1]; exact Nat.zero_le _, fun h0 => by omega⟩
  ·rename_i hn;injection hb with h1 h2
   injection h2 with h2 h3
   exact ⟨by rw [← h1, zas]; omega, fun _ => h3.symm⟩
theorem ydr {n : Nat} (h : n ≤ 20000) : (⟨(vput n).toArray⟩ : ByteArray).size ≤ 10 := by
 show (vput n).toArray.size ≤ 10;have := zae (n := n) (by omega);simpa using this
end Go.Proofs.YtkejlnjnoiidnaaGreatDoor
end

section
namespace Go.Proofs.YtkejlnjnoiidnaaGreatDoor
def vat (s : ByteArray) (p : Nat) (most : Int) : Nat × Nat × Int := vint (s.extract p s.size).data.toList most
abbrev VR := List Ent × Nat × Int × Int
def zdu (s : ByteArray) : Nat → Int → Nat → List Ent → VR
 | 0, r, p, acc => (acc, p, 0, r)
 | c + 1, r, p, acc => if (vat s p 1099511627776).2.2 ≠ 0 then ([], 0, (vat s p 1099511627776).2.2, 0) else zdu s c (r + 1) (p + (vat s p 1099511627776).2.1) (acc ++ [(r, ((vat s p 1099511627776).1 : Int))])
def zfc (s : ByteArray) : Nat → Bool → Int → Nat → List Ent → VR
 | 0, _, r, p, acc => (acc, p, 0, r)
 | c + 1, first, r, p, acc =>
  if (vat s p 200).2.2 ≠ 0 then ([], 0, (vat s p 200).2.2, 0)
  else if (vat s (p + (vat s p 200).2.1) 16).2.2 ≠ 0 then ([], 0, (vat s (p + (vat s p 200).2.1) 16).2.2, 0)
  else
   let x := zdu s ((vat s (p + (vat s p 200).2.1) 16).1 + 1) (r + ((vat s p 200).1 : Int) + (if first then 0 else 1)) (p + (vat s p 200).2.1 + (vat s (p + (vat s p 200).2.1) 16).2.1) acc
   if x.2.2.1 ≠ 0 then ([], 0, x.2.2.1, 0) else zfc s c false x.2.2.2 x.2.1 x.1
def zir (s : ByteArray) : VR := if (vat s 0 16).2.2 ≠ 0 then ([], 0, (vat s 0 16).2.2, 0) else zfc s (vat s 0 16).1 true 0 (vat s 0 16).2.1 []
def zbj (s : ByteArray) : List Ent × Nat × Int := if (zir s).2.2.1 ≠ 0 then ([], 0, (zir s).2.2.1) else if (zaf (zir s).1).1 ≠ 0 then ([], 0, (zaf (zir s).1).1) else ((zir s).1, (zir s).2.1, 0)
theorem zzf {s : ByteArray} {c : Nat} {r : Int} {p : Nat} {acc : List Ent} {X : VR} (h : X = zdu s (c + 1) r p acc) (he : (vat s p 1099511627776).2.2 ≠ 0) : X = ([], 0, (vat s p 1099511627776).2.2, 0) := by
 rw [h]; simp only [zdu]; rw [if_pos he]
theorem zvr {s : ByteArray} {c : Nat} {r : Int} {p : Nat} {acc : List Ent} {X : VR} (h : X = zdu s (c + 1) r p acc) (he : (vat s p 1099511627776).2.2 = 0) : X = zdu s c (r + 1) (p + (vat s p 1099511627776).2.1) (acc ++ [(r, ((vat s p 1099511627776).1 : Int))]) := by
 rw [h]; simp only [zdu]; rw [if_neg (by omega)]
theorem ybt {s : ByteArray} {c : Nat} {f : Bool} {r : Int} {p : Nat} {acc : List Ent} {X : VR} (h : X = zfc s (c + 1) f r p acc) (he : (vat s p 200).2.2 ≠ 0) : X = ([], 0, (vat s p 200).2.2, 0) := by
 rw [h]; simp only [zfc]; rw [if_pos he]
theorem ycy {s : ByteArray} {c : Nat} {f : Bool} {r : Int} {p : Nat} {acc : List Ent} {X : VR} (h : X = zfc s (c + 1) f r p acc) (h0 : (vat s p 200).2.2 = 0) (he : (vat s (p + (vat s p 200).2.1) 16).2.2 ≠ 0) : X = ([], 0, (vat s (p + (vat s p 200).2.1) 16).2.2, 0) := by
 rw [h]; simp only [zfc]; rw [if_neg (by omega), if_pos he]
theorem ycd {s : ByteArray} {c : Nat} {f : Bool} {r : Int} {p : Nat} {acc : List Ent} {X x : VR} (h : X = zfc s (c + 1) f r p acc) (h0 : (vat s p 200).2.2 = 0) (h1 : (vat s (p + (vat s p 200).2.1) 16).2.2 = 0)
  (hx : x = zdu s ((vat s (p + (vat s p 200).2.1) 16).1 + 1) (r + ((vat s p 200).1 : Int) + (if f then 0 else 1)) (p + (vat s p 200).2.1 + (vat s (p + (vat s p 200).2.1) 16).2.1) acc) (he : x.2.2.1 ≠ 0) : X = ([], 0, x.2.2.1, 0) := by
 rw [h]; simp only [zfc]; rw [if_neg (by omega), if_neg (by omega), ← hx, if_pos he]
theorem zzv {s : ByteArray} {c : Nat} {f : Bool} {r : Int} {p : Nat} {acc : List Ent} {X x : VR} (h : X = zfc s (c + 1) f r p acc) (h0 : (vat s p 200).2.2 = 0) (h1 : (vat s (p + (vat s p 200).2.1) 16).2.2 = 0)
  (hx : x = zdu s ((vat s (p + (vat s p 200).2.1) 16).1 + 1) (r + ((vat s p 200).1 : Int) + (if f then 0 else 1)) (p + (vat s p 200).2.1 + (vat s (p + (vat s p 200).2.1) 16).2.1) acc) (he : x.2.2.1 = 0) : X = zfc s c false x.2.2.2 x.2.1 x.1 := by
 rw [h]; simp only [zfc]; rw [if_neg (by omega), if_neg (by omega), ← hx, if_neg (by omega)]
theorem ygu (s : ByteArray) (p : Nat) (most : Int) : ((vat s p most).2.2 = 0 ∧ ((vat s p most).1 : Int) ≤ most ∧ 0 < (vat s p most).2.1 ∧ (vat s p most).2.1 ≤ 10 ∧ p + (vat s p most).2.1 ≤ s.size) ∨ ∃ e : Int, vat s p most = (0, 0, e) ∧ (e = 2 ∨ e = 3 ∨ e = 4 ∨ e = 7) := by
 unfold vat;rcases zmy (s.extract p s.size).data.toList most with ⟨h0, h1, _, h2, h3, h4⟩ | h
 ·refine .inl ⟨h0, h1, h2, h3, ?_⟩;have e : (s.extract p s.size).data.toList.length = s.size - p := by
   simp
  omega
 ·exact .inr h
theorem zph {s : ByteArray} {c g k : Nat} {e : Int} {f : Bool} {r : Int} {p : Nat} {acc : List Ent} {X : VR} (h : X = zfc s (c + 1) f r p acc) (ha : vat s p 200 = (g, k, e)) (he : e ≠ 0) : X = ([], 0, e, 0) := by
 have := ybt h (by rw [ha]; exact he);rwa [ha] at this
theorem zpa {s : ByteArray} {c g k m j : Nat} {e : Int} {f : Bool} {r : Int} {p : Nat} {acc : List Ent} {X : VR} (h : X = zfc s (c + 1) f r p acc) (ha : vat s p 200 = (g, k, 0)) (hb : vat s (p + k) 16 = (m, j, e)) (he : e ≠ 0) : X = ([], 0, e, 0) := by
 have hb' : vat s (p + (vat s p 200).2.1) 16 = (m, j, e) := by rw [ha]; exact hb
 have := ycy h (by rw [ha]) (by rw [hb']; exact he);rwa [hb'] at this
theorem zwv {s : ByteArray} {c g k m j : Nat} {f : Bool} {r : Int} {p : Nat} {acc : List Ent} {X : VR} (h : X = zfc s (c + 1) f r p acc) (ha : vat s p 200 = (g, k, 0)) (hb : vat s (p + k) 16 = (m, j, 0)) :
  ∃ x, x = zdu s (m + 1) (r + (g : Int) + (if f then 0 else 1)) (p + k + j) acc ∧ (x.2.2.1 ≠ 0 → X = ([], 0, x.2.2.1, 0)) ∧ (x.2.2.1 = 0 → X = zfc s c false x.2.2.2 x.2.1 x.1) := by
 have hb' : vat s (p + (vat s p 200).2.1) 16 = (m, j, 0) := by rw [ha]; exact hb
 have hx : zdu s (m + 1) (r + (g : Int) + (if f then 0 else 1)) (p + k + j) acc = zdu s ((vat s (p + (vat s p 200).2.1) 16).1 + 1) (r + ((vat s p 200).1 : Int) + (if f then 0 else 1)) (p + (vat s p 200).2.1 + (vat s (p + (vat s p 200).2.1) 16).2.1) acc := by
  rw [hb', ha]
 exact ⟨_, rfl, fun he => ycd h (by rw [ha]) (by rw [hb']) hx he, fun he => zzv h (by rw [ha]) (by rw [hb']) hx he⟩
theorem zmd {s : ByteArray} {c t k : Nat} {e r : Int} {p : Nat} {acc : List Ent} {X : VR} (h : X = zdu s (c + 1) r p acc) (ha : vat s p 1099511627776 = (t, k, e)) (he : e ≠ 0) : X = ([], 0, e, 0) := by
 have := zzf h (by rw [ha]; exact he);rwa [ha] at this
theorem zlh {s : ByteArray} {c t k : Nat} {r : Int} {p : Nat} {acc : List Ent} {X : VR} (h : X = zdu s (c + 1) r p acc) (ha : vat s p 1099511627776 = (t, k, 0)) : X = zdu s c (r + 1) (p + k) (acc ++ [(r, (t : Int))]) := by
 have := zvr h (by rw [ha]);rwa [ha] at this
theorem zey {s : ByteArray} {X : VR} {e : Int} (hX : zir s = X) (h : X = ([], 0, e, 0)) (he : e ≠ 0) : zbj s = ([], 0, e) := by
 unfold zbj; rw [hX, h, if_pos he]
theorem zma {s : ByteArray} {X : VR} {l : List Ent} {p : Nat} {r : Int} (hX : zir s = X) (h : X = (l, p, 0, r)) (he : (zaf l).1 ≠ 0) : zbj s = ([], 0, (zaf l).1) := by
 unfold zbj; rw [hX, h, if_neg (by simp), if_pos he]
theorem zpc {s : ByteArray} {X : VR} {l : List Ent} {p : Nat} {r : Int} (hX : zir s = X) (h : X = (l, p, 0, r)) (he : (zaf l).1 = 0) : zbj s = (l, p, 0) := by
 unfold zbj; rw [hX, h, if_neg (by simp), if_neg (by simpa using he)]
theorem zsp {s : ByteArray} {c k : Nat} {e : Int} (ha : vat s 0 16 = (c, k, e)) (he : e ≠ 0) : zir s = ([], 0, e, 0) := by
 unfold zir; rw [ha, if_pos he]
theorem zwj {s : ByteArray} {c k : Nat} (ha : vat s 0 16 = (c, k, 0)) : zir s = zfc s c true 0 k [] := by
 unfold zir; rw [ha, if_neg (by simp)]
theorem zdz (s : ByteArray) (p : Nat) (most : Int) : ∃ (n k : Nat) (e : Int), vat s p most = (n, k, e) ∧ (e = 0 ∧ (n : Int) ≤ most ∧ 0 < k ∧ k ≤ 10 ∧ p + k ≤ s.size ∨ e ≠ 0 ∧ n = 0 ∧ k = 0) := by
 rcases ygu s p most with ⟨h0, h1, h2, h3, h4⟩ | ⟨e, h, he⟩
 ·exact ⟨_, _, _, rfl, .inl ⟨h0, h1, h2, h3, h4⟩⟩
 ·exact ⟨0, 0, e, h, .inr ⟨by omega, rfl, rfl⟩⟩
theorem yaa {s : ByteArray} (h : (zbj s).2.2 ≠ 0) : (zbj s).1 = [] ∧ (zbj s).2.1 = 0 := by
 unfold zbj at h ⊢;split
 ·exact ⟨rfl, rfl⟩
 ·rename_i h1;rw [if_neg h1] at h;split
  ·exact ⟨rfl, rfl⟩
  ·rename_i h2;rw [if_neg h2] at h;exact absurd rfl h
end Go.Proofs.YtkejlnjnoiidnaaGreatDoor
end

section
namespace Go.Proofs.YtkejlnjnoiidnaaGreatDoor
def znw (t : List ByteArray) : List ByteArray → Nat → Int
 | [], _ => -1
 | s :: l, k => if s ∈ t.take k then k else znw t l (k + 1)
def twice (t : List ByteArray) : Int := znw t t 0
def klgo (t : List ByteArray) : List Int → Nat → Nat → List ByteArray → List ByteArray × Int × Int
 | [], _, next, out => if next < t.length then ([], 8, -1) else (out, 0, -1)
 | n :: l, i, next, out => if n < 0 ∨ (t.length : Int) ≤ n then ([], 2, i) else if (next : Int) < n then ([], 13, i) else klgo t l (i + 1) (if n = (next : Int) then next + 1 else next) (out ++ [t.getD n.toNat (strOf [])])
def zgn (t : List ByteArray) (a : List Int) : List ByteArray × Int × Int := if 0 ≤ twice t then ([], 9, twice t) else klgo t a 0 0 []
def KT (t : List ByteArray) (k : Nat) : Prop := twice t = znw t (t.drop k) k
theorem KT.zero (t : List ByteArray) : KT t 0 := rfl
theorem zzr {α : Type} {l : List α} {k : Nat} {x : α} (h : l[k]? = some x) : l.drop k = x :: l.drop (k + 1) := by
 obtain ⟨hk, e⟩ := List.getElem?_eq_some_iff.1 h;rw [List.drop_eq_getElem_cons hk, e]
theorem KT.hit {t : List ByteArray} {k : Nat} {s : ByteArray} (h : KT t k) (hx : t[k]? = some s) (hs : s ∈ t.take k) : twice t = (k : Int) := by
 unfold KT at h; rw [h, zzr hx]; simp only [znw]; rw [if_pos hs]
theorem KT.succ {t : List ByteArray} {k : Nat} {s : ByteArray} (h : KT t k) (hx : t[k]? = some s) (hs : ¬ s ∈ t.take k) : KT t (k + 1) := by
 unfold KT at *; rw [h, zzr hx]; simp only [znw]; rw [if_neg hs]
theorem KT.all {t : List ByteArray} {k : Nat} (h : KT t k) (hk : t.length ≤ k) : twice t = -1 := by
 unfold KT at h; rw [h, List.drop_eq_nil_of_le hk]; rfl
theorem znp {t : List ByteArray} {a : List Int} {k : Nat} (h : twice t = (k : Int)) : zgn t a = ([], 9, (k : Int)) := by
 unfold zgn; rw [h, if_pos (by omega)]
theorem zop {t : List ByteArray} {a : List Int} (h : twice t = -1) : zgn t a = klgo t a 0 0 [] := by
 unfold zgn; rw [h, if_neg (by omega)]
structure KA (t : List ByteArray) (a : List Int) (i next : Nat) (out : List ByteArray) : Prop where
 eq : klgo t a 0 0 [] = klgo t (a.drop i) i next out
 len : out.length = i
 le : next ≤ t.length
 le' : next ≤ i
theorem KA.zero (t : List ByteArray) (a : List Int) : KA t a 0 0 [] := ⟨rfl, rfl, Nat.zero_le _, Nat.zero_le _⟩
section
variable {t : List ByteArray} {a : List Int} {i next : Nat} {out : List ByteArray} {n : Int}
theorem KA.range (h : KA t a i next out) (hx : a[i]? = some n) (h1 : n < 0 ∨ (t.length : Int) ≤ n) : klgo t a 0 0 [] = ([], 2, (i : Int)) := by
 rw [h.eq, zzr hx]; simp only [klgo]; rw [if_pos h1]
theorem KA.false (h : KA t a i next out) (hx : a[i]? = some n) (h1 : ¬ (n < 0 ∨ (t.length : Int) ≤ n)) (h2 : (next : Int) < n) : klgo t a 0 0 [] = ([], 13, (i : Int)) := by
 rw [h.eq, zzr hx]; simp only [klgo]; rw [if_neg h1, if_pos h2]
theorem KA.new (h : KA t a i next out) (hx : a[i]? = some n) (h1 : ¬ (n < 0 ∨ (t.length : Int) ≤ n)) (h2 : n = (next : Int)) : KA t a (i + 1) (next + 1) (out ++ [t.getD n.toNat (strOf [])]) := by
 refine ⟨?_, by simp [h.len], by omega, by have := h.le'; omega⟩;rw [h.eq, zzr hx]; simp only [klgo]; rw [if_neg h1, if_neg (by omega), if_pos h2]
theorem KA.old (h : KA t a i next out) (hx : a[i]? = some n) (h1 : ¬ (n < 0 ∨ (t.length : Int) ≤ n)) (h2 : n < (next : Int)) : KA t a (i + 1) next (out ++ [t.getD n.toNat (strOf [])]) := by
 refine ⟨?_, by simp [h.len], h.le, by have := h.le'; omega⟩;rw [h.eq, zzr hx]; simp only [klgo]; rw [if_neg h1, if_neg (by omega), if_neg (by omega)]
theorem KA.less (h : KA t a i next out) (hi : a.length ≤ i) (h1 : next < t.length) : klgo t a 0 0 [] = ([], 8, -1) := by
 rw [h.eq, List.drop_eq_nil_of_le hi]; simp only [klgo]; rw [if_pos h1]
theorem KA.done (h : KA t a i next out) (hi : a.length ≤ i) (h1 : ¬ next < t.length) : klgo t a 0 0 [] = (out, 0, -1) := by
 rw [h.eq, List.drop_eq_nil_of_le hi]; simp only [klgo]; rw [if_neg h1]
end
end Go.Proofs.YtkejlnjnoiidnaaGreatDoor
end
