/- The reference's Cells. Printed by gen_rcells.py. -/
import Derived.Test.YtlpkpfpmcppciaaGreatDoorZ13
import Derived.Test.YtlpkpfpmcppciaaGreatDoorZ20
section
namespace Go.Proofs.YtlpkpfpmcppciaaGreatDoor
set_option linter.unusedSimpArgs false
set_option linter.unusedVariables false
open Go.RowKit As Go.Maps
def keysOf (l : List Wr) : List ByteArray := l.map fun x => x.2.2.2.1
def outL (l : List Wr) (ks : List ByteArray) : List (ByteArray × Cel) := (ks.map fun k => (k, cellOf k l)).filter fun p => p.2.full
theorem outL_snoc (l : List Wr) (ks : List ByteArray) (k : ByteArray) : outL l (ks ++ [k]) = outL l ks ++ (if (cellOf k l).full = true then [(k, cellOf k l)] else []) := by
 unfold outL
 rw [List.map_append, List.filter_append]
 congr 1
 by_cases h : (cellOf k l).full = true
 ·simp [h]
 ·simp [h]
theorem outL_len (l : List Wr) (ks : List ByteArray) : (outL l ks).length ≤ ks.length := by
 unfold outL
 have := List.length_filter_le (fun p : ByteArray × Cel => p.2.full) (ks.map fun k => (k, cellOf k l))
 simpa using this
theorem cellOf_take {l : List Wr} {j : Nat} {x : Wr} (h : l[j]? = some x) (k : ByteArray) : cellOf k (l.take (j + 1)) = if x.2.2.2.1 = k then (cellOf k (l.take j)).step x else cellOf k (l.take j) := by
 rw [take_snoc h, cellOf_snoc]
theorem w_suc {k n : Nat} (h : k < n) (hn : n ≤ 2200000000000) : IntKind.i64.wrap ((k : Int) + 1) = ((k + 1 : Nat) : Int) ∧ wrap64 ((k : Int) + 1) = ((k + 1 : Nat) : Int) := by
 rw [show (k : Int) + 1 = ((k + 1 : Nat) : Int) by omega]
 exact ⟨IntWalk.i64_in _ (by omega), IntWalk.wrap64_in _ (by omega)⟩
theorem part_block {A : Option Addr} {g : Nat} (h : ∀ a, A = some a → ¬ a.block = g) (c i : Nat) : ∀ a, (if c = i then A else A.map (·.add (i * 1))) = some a → ¬ a.block = g := by
 intro a ha
 split at ha
 ·exact h a ha
 ·cases A with
  | none => cases ha
  | some b =>
   injection ha with ha
   subst ha
   have : (b.add (i * 1)).block = b.block := by unfold Addr.add; split <;> rfl
   rw [this]
   exact h b rfl
theorem meas_nx {a n : Nat} (h : a < n) : n - (a + 1) < n - a := by omega
/-- The inner loop's cell. -/
structure Inn (W : World) (gc : Nat) (key : ByteArray) (l : List Wr) (j : Nat) (Y : CelX) (wr : World) : Prop where
 rc : RC wr gc (celV Y)
 lst : LstOk wr W.heap.size Y
 name : Y.1 = key
 cell : Y.2.1 = cellOf key (l.take j)
 turn : Turned (fun i => i = gc) W wr
theorem Inn.len {W : World} {gc : Nat} {key : ByteArray} {l : List Wr} {j : Nat} {Y : CelX} {wr : World} (h : Inn W gc key l j Y wr) : Y.2.1.list.length ≤ j := by
 rw [h.cell]
 have h1 := cellOf_len key (l.take j)
 have h2 : (l.take j).length ≤ j := by rw [List.length_take]; omega
 omega
def rc20V (gw gc : Nat) (a5 : ByteArray) (g : Unit) : Nat → Value
 | 0 => .pointer (some ⟨gw, 4, none⟩)
 | 1 => .string a5
 | 2 => .pointer (some ⟨gc, 1, none⟩)
 | 4 => .pointer (some ⟨gc, 2, none⟩)
 | _ => undef
def rc27V (gw gc : Nat) (X : CelX) (a5 : ByteArray) (i : Nat) (gz : Nat × Value × Value × Option Addr × Nat × Nat) : Nat → Value
 | 0 => .pointer (some ⟨gc, 4, none⟩)
 | 1 => .slice X.2.2.1 X.2.1.list.length X.2.2.2.2
 | 2 => .int .i64 (i : Int)
 | 3 => .slice (if X.2.2.2.2 = 0 then X.2.2.1 else X.2.2.1.map (·.add (0 * 1))) i X.2.2.2.2
 | 4 => gz.2.1
 | 5 => .pointer (some ⟨gw, 4, none⟩)
 | 6 => .string a5
 | 7 => .slice (some ⟨gz.1, 0, none⟩) 1 1
 | 8 => gz.2.2.1
 | 9 => .pointer (some ⟨gc, 4, none⟩)
 | 10 => .slice X.2.2.1 X.2.1.list.length X.2.2.2.2
 | 11 => .int .i64 (i : Int)
 | 12 => .slice (if X.2.2.2.2 = i then X.2.2.1 else X.2.2.1.map (·.add (i * 1))) (X.2.1.list.length - i) (X.2.2.2.2 - i)
 | 13 => .slice gz.2.2.2.1 gz.2.2.2.2.1 gz.2.2.2.2.2
 | 14 => .pointer (some ⟨gc, 4, none⟩)
 | _ => undef
set_option maxHeartbeats 8000000 in
set_option maxRecDepth 100000 in
theorem rcells_any {w : World} (A : Option Addr) (n c : Nat) (l : List Wr) (hl : Sl w w.heap.size 6 A n (l.flatMap wrCells)) (hr : ∀ x ∈ l, wright x = 0) (hn : n ≤ 2200000000000) :
  Calls Tryz.prog 14 #[.slice A n c] w fun e w' => ∃ v o, e = .returned v ∧ OutR w' w.heap.size v o ∧ IsOut l o ∧ Below w.heap.size w w' := by
 obtain ⟨i0, hi, hz0, hz1, hz2⟩ := info_parts celInfo
 obtain ⟨j0, hj0, hy0, hy1, hy2⟩ := info_parts strsInfo
 have hll := Lib.hid (slk_len wrCells 6 (by omega) (fun _ => rfl) hl)
 have HR := Lib.hid hr
 clear hr
 go_enter Tryz.func14, Tryz.ntmps14
 go_wp2_with fail
 go_loopw [3, 5, 17] (fun v3 _ i wr => ∃ k : Nat, k ≤ n ∧ i = .int .i64 k ∧ wr.ownsRow w.heap.size 9 1 v3 k (strsV (keysOf (l.take k))) ∧ Below w.heap.size w wr) (fun _ _ i _ => n - (intOf i).toNat)
 case atStart => exact ⟨0, by omega, rfl, World.ownsRow_nil _ _ _ _, Below.refl _ _⟩
 case round =>
  obtain ⟨k, hk, rfl, ho, hb⟩ := hrel
  by_cases hlt : k < n
  ·obtain ⟨b, o, x, rfl, hbl, hx, hc⟩ := slk_at wrCells 6 (fun _ => rfl) hl hll.out hlt
   have HX := Lib.hid hx
   obtain ⟨a1, a2, a3, a4, a5, a6⟩ := x
   have c0 := (hb.cell (p := ⟨b, _, none⟩) hbl).trans (hc 0 _ rfl)
   have c1 := (hb.cell (p := ⟨b, _, none⟩) hbl).trans (hc 1 _ rfl)
   have c2 := (hb.cell (p := ⟨b, _, none⟩) hbl).trans (hc 2 _ rfl)
   have c3 := (hb.cell (p := ⟨b, _, none⟩) hbl).trans (hc 3 _ rfl)
   have c4 := (hb.cell (p := ⟨b, _, none⟩) hbl).trans (hc 4 _ rfl)
   have c5 := (hb.cell (p := ⟨b, _, none⟩) hbl).trans (hc 5 _ rfl)
   simp only [Nat.add_zero] at c0
   obtain ⟨hw63, hw64⟩ := w_suc hlt hn
   have hsz := hb.size
   have bA := bel1 wr (.cells #[.int .i64 a1, .int .i64 a2, .int .i64 a3, .string a4, .string a5, .int .i64 a6] 32)
   have hoA := ho.alloc (.cells #[.int .i64 a1, .int .i64 a2, .int .i64 a3, .string a4, .string a5, .int .i64 a6] 32)
   have hbA := hb.trans (bA.mono hb.size)
   have k3 : (wr.alloc (.cells #[.int .i64 a1, .int .i64 a2, .int .i64 a3, .string a4, .string a5, .int .i64 a6] 32)).cell? ⟨wr.heap.size, 3, none⟩ = some (.string a4) := by rw [World.cell?_alloc_new]; rfl
   have HLE : Hid (k + 1 ≤ maxLen ∧ (k + 1) * 16 ≤ 140737488355328) := Lib.hid (by unfold maxLen; omega)
   clear hc hx bA ho
   go_upto_region 5 with fail
   obtain ⟨gw, hgw⟩ : ∃ g, g = wr.heap.size := ⟨_, rfl⟩
   rw [← hgw] at k3 ⊢
   clear hgw c0 c1 c2 c3 c4 c5 hb hsz
   generalize wr.alloc (.cells #[.int .i64 a1, .int .i64 a2, .int .i64 a3, .string a4, .string a5, .int .i64 a6] 32) = wA at *
   have hsA := hbA.size
   go_wp2_with (first
    | (at_builtin; refine wpList_append_own _ rfl (.tmp 21) (.tmp 24) 88 rfl w.heap.size 9 j0 (.string ⟨#[]⟩) 1 16 Tryz.underlying88 hj0 hy0 hy1 hy2 rfl (by decide) u3 k (strsV (keysOf (l.take k))) rfl (hoA.alloc _) ⟨wA.heap.size, 0, none⟩ 1 1 [.string a4] rfl rfl (cells_at wA [.string a4] _) (by intro u hu; simp at hu; subst hu; rfl) HLE.out.1 HLE.out.2 (by simp; omega) ?_; intro v5 w5 hO5 hg5 _))
   have hb5 := grown_own (hbA.alloc hsA _) hg5 (by simp; omega) (hoA.alloc _)
   go_roundw
   case rel => exact ⟨k + 1, by omega, by go_num, by rw [take_snoc HX.out]; unfold keysOf strsV at hO5 ⊢; rw [List.map_append, List.map_append]; exact hO5, hb5⟩
   case measure => simp [intOf]; omega
  ·obtain rfl : k = n := by omega
   have htk : l.take k = l := List.take_of_length_le (by rw [hll.out]; exact Nat.le_refl _)
   rw [htk] at ho
   clear hlt
   obtain ⟨AK, cK, rfl⟩ := own_form ho
   have hSl := Sl.of_own ho
   have hStr : Strs wr AK k (keysOf l) := by
    have e : (keysOf l).flatMap (fun x => [Value.string x]) = strsV (keysOf l) := Keys.map_flat Value.string _
    unfold Strs
    rw [e]
    exact hSl
   have hkl : (keysOf l).length = k := by unfold keysOf; rw [List.length_map]; exact hll.out
   have htl := Keys.tab_len (keysOf l)
   have hta := tab_all (keysOf l)
   have hsp := sortK_perm (Keys.tab (keysOf l)).1
   have hsr := sortK_rises (Keys.tab (keysOf l)).1
   obtain ⟨T, hT⟩ : ∃ T, T = (Keys.tab (keysOf l)).1 := ⟨_, rfl⟩
   have htab := Keys.rtable_any k cK AK (keysOf l) wr hStr (by omega)
   rw [← hT] at htl hta hsp hsr htab
   have hTS : (sortK T).length = T.length := hsp.length_eq
   have hTk : T.length ≤ k := by rw [← hkl]; exact htl.1
   obtain ⟨TS, hTSe⟩ : ∃ S, S = sortK T := ⟨_, rfl⟩
   have hIO : IsOut l (outL l TS) := by
    rw [hTSe]
    exact isOut_ref hsr (hsp.nodup_iff.2 htl.2.2.1) (fun x hx => (hsp.mem_iff).2 (hta _ (List.mem_map.2 ⟨x, hx, rfl⟩)))
   have HIO := Lib.hid hIO
   have hss := fun (v : Value) (W : World) (hW : W.ownsRow wr.heap.size 9 1 v T.length (strsV T)) => sstr_any hW (by omega)
   rw [← hTSe] at hTS hss
   have HB := Lib.hid hb
   have HBS := Lib.hid hb.size
   clear hb ho hSl hStr htl hta hsp hsr hT hTSe hIO hkl
   go_wp2_with (first
    | (go_at_call 44; refine htab.mono ?_; rintro r w2 ⟨v2, v3, rfl, hv2, _, hb2⟩; obtain ⟨AT, cT, rfl⟩ := own_form hv2; have hsv := hss _ w2 hv2)
    | (go_at_call 45; refine hsv.mono ?_; rintro r w3 ⟨rfl, hT3, ht3⟩))
   have hb3 : Below w.heap.size w w3 := (HB.out.trans (hb2.mono HB.out.size)).trans (ht3.below (fun i hi => Nat.le_trans HBS.out (hv2.lt i hi).1) (Nat.le_trans HBS.out hb2.size))
   have HB3 := Lib.hid hb3
   have hl3 := (hl.below hb3)
   have hST : Sl w3 w3.heap.size 1 AT T.length (TS.flatMap fun x => [Value.string x]) := by
    have e : TS.flatMap (fun x => [Value.string x]) = strsV TS := Keys.map_flat Value.string _
    rw [e]
    exact Sl.of_own hT3
   clear htab hss hsv hv2 hb2 ht3 hT3 hb3
   go_loopw [8, 10, 11, 13, 14, 36, 44] (fun v8 _ _ _ _ i _ wx => ∃ (j : Nat) (L : List CelX), j ≤ T.length ∧ i = .int .i64 j ∧ wx.ownsRow w3.heap.size 90 5 v8 L.length (L.flatMap celV) ∧ (∀ x ∈ L, LstOk wx w3.heap.size x) ∧ Hid (L.map cutX = outL l (TS.take j)) ∧ Below w3.heap.size w3 wx) (fun _ _ _ _ _ i _ _ => T.length - (intOf i).toNat)
   case atStart => exact ⟨0, [], by omega, rfl, World.ownsRow_nil _ _ _ _, (fun _ hx => absurd hx (List.not_mem_nil)), Lib.hid rfl, Below.refl _ _⟩
   case round =>
    obtain ⟨j, L, hj, rfl, ho, hLs, HG, hb⟩ := hrel
    by_cases hlt : j < T.length
    ·obtain ⟨bt, ot, key, hAT, hbt, hkey, hct⟩ := sl1_at Value.string hST hTS hlt
     have ct := (hb.cell (p := ⟨bt, _, none⟩) hbt).trans hct
     subst hAT
     have HKEY := Lib.hid hkey
     have bC := bel1 wr (.cells #[.string key, .bool false, .string ⟨#[]⟩, .int .i64 0, .slice none 0 0] 90)
     have rcC : RC (wr.alloc (.cells #[.string key, .bool false, .string ⟨#[]⟩, .int .i64 0, .slice none 0 0] 90)) wr.heap.size (celV (newX key)) := RC.new wr (celV (newX key)) _
     have hoC := ho.alloc (.cells #[.string key, .bool false, .string ⟨#[]⟩, .int .i64 0, .slice none 0 0] 90)
     have hLC : ∀ x ∈ L, LstOk (wr.alloc (.cells #[.string key, .bool false, .string ⟨#[]⟩, .int .i64 0, .slice none 0 0] 90)) w3.heap.size x := fun x hx => (hLs x hx).below bC
     have hbC := hb.trans (bC.mono hb.size)
     have HOX : Hid (∀ q, u8.ownBlock = some q → q < wr.heap.size) := Lib.hid (fun q hq => (ho.lt q hq).2)
     have HLX : Hid (∀ x ∈ L, ∀ q, x.lv.ownBlock = some q → q < wr.heap.size) := Lib.hid (fun x hx q hq => ((hLs x hx).lt q hq).2)
     have HGS := Lib.hid hb.size
     have HGL : Hid (wr.heap.size < (wr.alloc (.cells #[.string key, .bool false, .string ⟨#[]⟩, .int .i64 0, .slice none 0 0] 90)).heap.size) := Lib.hid (by simp)
     obtain ⟨gc, hgc⟩ : ∃ g, g = wr.heap.size := ⟨_, rfl⟩
     clear hkey hct hbt bC ho hLs hb
     go_upto_block 4 with fail
     rw [← hgc] at rcC HOX HLX HGS HGL ⊢
     clear hgc ct
     generalize wr.alloc (.cells #[.string key, .bool false, .string ⟨#[]⟩, .int .i64 0, .slice none 0 0] 90) = W at *
     have HIN := Lib.hid (Inn.mk (l := l) (j := 0) rcC (.zero _ _ _) rfl rfl (.refl _ _))
     have HBC := Lib.hid hbC
     have HLC := Lib.hid hLC
     have HOC := Lib.hid hoC
     clear rcC hbC hLC hoC
     go_wp2_with fail
     go_loopw [13, 14, 44] (fun _ _ i2 wx => ∃ (j2 : Nat) (X : CelX), j2 ≤ k ∧ i2 = .int .i64 j2 ∧ Inn W gc key l j2 X wx) (fun _ _ i2 _ => k - (intOf i2).toNat)
     case atStart => exact ⟨0, newX key, by omega, rfl, HIN.out⟩
     case round =>
      clear HIN
      obtain ⟨j2, X, hj2, rfl, hIn⟩ := hrel
      by_cases hlt2 : j2 < k
      ·obtain ⟨b, o, x, hAA, hbl, hx, hc⟩ := slk_at wrCells 6 (fun _ => rfl) hl3 hll.out hlt2
       subst hAA
       have HX := Lib.hid hx
       have HRX := Lib.hid (HR.out x (List.mem_of_getElem? hx))
       have hbW : Below w3.heap.size w3 wr := HBC.out.trans (hIn.turn.below (fun i hi => by rw [hi]; exact HGS.out) HBC.out.size)
       obtain ⟨a1, a2, a3, a4, a5, a6⟩ := x
       have hbl3 : b < w3.heap.size := Nat.lt_of_lt_of_le hbl HB3.out.size
       have c0 := (hbW.cell (p := ⟨b, _, none⟩) hbl3).trans (hc 0 _ rfl)
       have c1 := (hbW.cell (p := ⟨b, _, none⟩) hbl3).trans (hc 1 _ rfl)
       have c2 := (hbW.cell (p := ⟨b, _, none⟩) hbl3).trans (hc 2 _ rfl)
       have c3 := (hbW.cell (p := ⟨b, _, none⟩) hbl3).trans (hc 3 _ rfl)
       have c4 := (hbW.cell (p := ⟨b, _, none⟩) hbl3).trans (hc 4 _ rfl)
       have c5 := (hbW.cell (p := ⟨b, _, none⟩) hbl3).trans (hc 5 _ rfl)
       simp only [Nat.add_zero] at c0
       obtain ⟨hw63, hw64⟩ := w_suc hlt2 hn
       have bA := bel1 wr (.cells #[.int .i64 a1, .int .i64 a2, .int .i64 a3, .string a4, .string a5, .int .i64 a6] 32)
       have hWA : RC (wr.alloc (.cells #[.int .i64 a1, .int .i64 a2, .int .i64 a3, .string a4, .string a5, .int .i64 a6] 32)) wr.heap.size (wrCells (a1, a2, a3, a4, a5, a6)) := RC.new wr (wrCells (a1, a2, a3, a4, a5, a6)) _
       have hInA : Inn W gc key l j2 X (wr.alloc (.cells #[.int .i64 a1, .int .i64 a2, .int .i64 a3, .string a4, .string a5, .int .i64 a6] 32)) := ⟨hIn.rc.below bA, hIn.lst.below bA, hIn.name, hIn.cell, hIn.turn.trans (.of_below bA)⟩
       have HGWC : Hid (gc < wr.heap.size) := Lib.hid (Nat.lt_of_lt_of_le HGL.out hIn.turn.size)
       have HLXX : Hid (∀ q, X.lv.ownBlock = some q → q < wr.heap.size) := Lib.hid (fun q hq => (hIn.lst.lt q hq).2)
       have hgwl := cell_lt (hWA 0 _ rfl).1
       obtain ⟨gw, hgw⟩ : ∃ g, g = wr.heap.size := ⟨_, rfl⟩
       clear hc hx hbW hbl hbl3 bA hIn
       go_upto_region 17 with fail
       rw [← hgw] at hWA HGWC HLXX hgwl ⊢
       clear hgw c0 c1 c2 c3 c4 c5
       generalize wr.alloc (.cells #[.int .i64 a1, .int .i64 a2, .int .i64 a3, .string a4, .string a5, .int .i64 a6] 32) = wA at *
       have HGWL : Hid (gw < wA.heap.size) := Lib.hid hgwl
       have k3 := (hWA 3 _ rfl).1
       have k2 := (hWA 2 _ rfl).1
       clear hgwl
       have HJ : Hid (j2 + 1 ≤ k) := Lib.hid hlt2
       have HMS : Hid (k - (j2 + 1) < k - j2) := Lib.hid (meas_nx hlt2)
       clear hj2 hlt2
       by_cases hke : key = a4
       ·subst hke
        have hXA := hInA.rc
        have hst : ∀ x : Wr, x.2.2.2.1 = key → l[j2]? = some x → cellOf key (l.take (j2 + 1)) = X.2.1.step x := fun x hx hxx => by rw [cellOf_take hxx, if_pos hx, hInA.cell]
        have HST := Lib.hid hst
        have HIA := Lib.hid hInA
        have HGW : Hid (¬ gw = gc) := Lib.hid (by have := HGWC.out; omega)
        have HGCL : Hid (gc < wA.heap.size) := Lib.hid (by have := HGWC.out; have := HGWL.out; omega)
        have HLN := Lib.hid hInA.len
        have HXG : Hid (∀ q, X.lv.ownBlock = some q → ¬ q = gc) := Lib.hid (fun q hq e => by have := (hInA.lst.lt q hq).1; have := HGL.out; omega)
        have HSL := Lib.hid hInA.lst.slice
        have hkd := wright_kind HRX.out
        clear hst hInA
        try simp only at hkd
        rcases hkd with rfl | rfl | rfl | ⟨rfl, hz0, hz1⟩
        ·go_wp2
         clear k2 k3
         refine Flow.wp_region_go (by kernel_rfl) (by kernel_rfl) (by kernel_rfl) 115 rfl (by kernel_rfl) (rc20V gw gc a5) (fun _ L wz => RC wz gc (putVs X (L 3) (L 5) a5) ∧ RC wz gw (wrCells (a1, a2, 1, key, a5, a6)) ∧ Turned (fun i => i = gc) wA wz) (fun _ _ => False) (()) (⟨hXA.below (Below.refl _ _).drew, hWA.below (Below.refl _ _).drew, .of_below (Below.refl _ _).drew⟩) ⟨?_, ?_, ?_, ?_, ?_, ?_, trivial⟩ ?_ ?_
         ·intro gz L wz K ρ hc0 hf0 hF hO hU hcl hi hd hC hK
          have e13 : ρ (.tmp 13) = .pointer (some ⟨gw, 0, none⟩) := hO 13 (by kernel_rfl)
          simp [go_sem, Flow.ylP_value, Flow.ylP_skip, Flow.ylP_enter, Flow.ylP_panic, hc0, hf0, e13]
          exact hK gz wz hC (fun _ _ => rfl)
         ·intro gz L wz K ρ hc0 hf0 hF hO hU hcl hi hd hC hK
          have d0 : L 0 = true := hd ⟨0, .data⟩ (by simp) rfl
          have e56 : ρ (.tmp 56) = .pointer (some ⟨gw, 4, none⟩) := hF 56 0 (by kernel_rfl) d0
          have cc := (hC.2.1 4 _ rfl).1
          simp [go_sem, Flow.ylP_value, Flow.ylP_skip, Flow.ylP_enter, Flow.ylP_panic, hc0, hf0, e56, cc]
          exact hK gz wz hC (fun _ _ => rfl)
         ·intro gz L wz K ρ hc0 hf0 hF hO hU hcl hi hd hC hK
          have e11 : ρ (.tmp 11) = .pointer (some ⟨gc, 0, none⟩) := hO 11 (by kernel_rfl)
          simp [go_sem, Flow.ylP_value, Flow.ylP_skip, Flow.ylP_enter, Flow.ylP_panic, hc0, hf0, e11]
          exact hK gz wz hC (fun _ _ => rfl)
         ·intro gz L wz K ρ hc0 hf0 hF hO hU hcl hi hd hC hK
          have d2 : L 2 = true := hd ⟨2, .data⟩ (by simp) rfl
          have e58 : ρ (.tmp 58) = .pointer (some ⟨gc, 1, none⟩) := hF 58 2 (by kernel_rfl) d2
          have fc := (hC.1 1 _ rfl).2
          have cc := (hC.1 1 _ rfl).1
          rw [hi] at hC
          simp [go_sem, Flow.ylP_value, Flow.ylP_skip, Flow.ylP_enter, Flow.ylP_panic, hc0, hf0, e58, fc, cc]
          exact hK () _ ⟨hC.1.set 1 (.bool true) (by simp [putVs]), hC.2.1.turned (F := fun i => i = gc) (.set _ _ _ rfl) HGW.out, hC.2.2.trans (.set _ _ _ rfl)⟩ (fun _ _ => rfl)
         ·intro gz L wz K ρ hc0 hf0 hF hO hU hcl hi hd hC hK
          have e11 : ρ (.tmp 11) = .pointer (some ⟨gc, 0, none⟩) := hO 11 (by kernel_rfl)
          simp [go_sem, Flow.ylP_value, Flow.ylP_skip, Flow.ylP_enter, Flow.ylP_panic, hc0, hf0, e11]
          exact hK gz wz hC (fun _ _ => rfl)
         ·intro gz L wz K ρ hc0 hf0 hF hO hU hcl hi hd hC hK
          have d4 : L 4 = true := hd ⟨4, .data⟩ (by simp) rfl
          have e59 : ρ (.tmp 59) = .pointer (some ⟨gc, 2, none⟩) := hF 59 4 (by kernel_rfl) d4
          have d1 : L 1 = true := hd ⟨1, .data⟩ (by simp) rfl
          have e57 : ρ (.tmp 57) = .string a5 := hF 57 1 (by kernel_rfl) d1
          have fc := (hC.1 2 _ rfl).2
          have cc := (hC.1 2 _ rfl).1
          rw [hi] at hC
          simp [go_sem, Flow.ylP_value, Flow.ylP_skip, Flow.ylP_enter, Flow.ylP_panic, hc0, hf0, e59, e57, fc, cc]
          exact hK () _ ⟨hC.1.set 2 (.string a5) (by simp [putVs]), hC.2.1.turned (F := fun i => i = gc) (.set _ _ _ rfl) HGW.out, hC.2.2.trans (.set _ _ _ rfl)⟩ (fun _ _ => rfl)
         ·intro gz L ch wz h; exact h.elim
         ·intro gz L wz hL hC
          rw [hL 3 (by decide), hL 5 (by decide)] at hC
          simp only [Flow.putAll, rc20V]
          simp [Act.put]
          have hY : Inn W gc key l (j2 + 1) (X.1, { X.2.1 with has := true, text := a5 }, X.2.2) wz := ⟨hC.1, HIA.out.lst.turned hC.2.2 (fun q hq e => HXG.out q hq e), HIA.out.name, by rw [HST.out _ rfl HX.out]; rfl, HIA.out.turn.trans hC.2.2⟩
          go_wp2
          go_roundw
          case rel => exact ⟨j2 + 1, _, HJ.out, rfl, hY⟩
          case measure => exact HMS.out
        ·have hTh := hXA.there (n := 5) rfl
         have hone : (#[Value.string key, .bool false, .string ⟨#[]⟩, .int .i64 0, .slice none 0 0] : Array Value).all (·.oneCell') = true := by simp [Value.oneCell']
         have HFF : Hid (RC (wA.setCells gc 0 (#[.string key, .bool false, .string ⟨#[]⟩, .int .i64 0, .slice none 0 0] : Array Value).toList) gc (celV (newX key)) ∧ Turned (fun i => i = gc) wA (wA.setCells gc 0 (#[.string key, .bool false, .string ⟨#[]⟩, .int .i64 0, .slice none 0 0] : Array Value).toList)) := Lib.hid ⟨hXA.fill (celV (newX key)) rfl, .setCells wA gc 0 _ rfl⟩
         go_wp2_with (first
          | (refine wpList_store_mid rfl 90 _ _ rfl gc 0 (#[.string key, .bool false, .string ⟨#[]⟩, .int .i64 0, .slice none 0 0] : Array Value) rfl rfl hTh (by kernel_rfl) hone ?_; have HF2 := HFF.out; clear HFF; generalize wA.setCells gc 0 (#[.string key, .bool false, .string ⟨#[]⟩, .int .i64 0, .slice none 0 0] : Array Value).toList = W9 at *))
         go_roundw
         case rel => exact ⟨j2 + 1, newX key, HJ.out, rfl, ⟨HF2.1, .zero _ _ _, rfl, by rw [HST.out _ rfl HX.out]; rfl, HIA.out.turn.trans HF2.2⟩⟩
         case measure => exact HMS.out
        ·have q3 := hXA 3 _ rfl
         obtain ⟨q3, f3⟩ := q3
         have k5 := (hWA 5 _ rfl).1
         go_wp2
         have hS := hXA.set 3 (.int .i64 (wrap64 (X.2.1.sum + a6))) (by simp [celV])
         have hTS : Turned (fun i => i = gc) wA (wA.setCell ⟨gc, 3, none⟩ (.int .i64 (wrap64 (X.2.1.sum + a6)))) := .set wA 3 _ rfl
         have hY : Inn W gc key l (j2 + 1) (X.1, { X.2.1 with sum := wrap64 (X.2.1.sum + a6) }, X.2.2) (wA.setCell ⟨gc, 3, none⟩ (.int .i64 (wrap64 (X.2.1.sum + a6)))) := by
          refine ⟨?_, HIA.out.lst.turned hTS (fun q hq e => HXG.out q hq e), HIA.out.name, by rw [HST.out _ rfl HX.out]; rfl, HIA.out.turn.trans hTS⟩
          have e : (celV X).set 3 (.int .i64 (wrap64 (X.2.1.sum + a6))) = celV (X.1, { X.2.1 with sum := wrap64 (X.2.1.sum + a6) }, X.2.2) := by
           rfl
          rw [← e]
          exact hS
         go_roundw
         case rel => exact ⟨j2 + 1, _, HJ.out, rfl, hY⟩
         case measure => exact HMS.out
        ·obtain ⟨z, rfl⟩ := Int.eq_ofNat_of_zero_le hz0
         obtain ⟨i, hi0⟩ : ∃ i, i = min z X.2.1.list.length := ⟨_, rfl⟩
         have HI := Lib.hid hi0
         have HMIN : Hid (min (z : Int) (X.2.1.list.length : Int) = (i : Int)) := Lib.hid (by rw [hi0]; exact min_cast _ _)
         have HIL : Hid (i ≤ X.2.1.list.length) := Lib.hid (by rw [hi0]; exact Nat.min_le_right _ _)
         have HOL : Hid (wA.ownsRow W.heap.size 9 1 (.slice X.2.2.1 X.2.1.list.length X.2.2.2.2) X.2.1.list.length (strsV X.2.1.list)) := Lib.hid (by have := HIA.out.lst.1; rw [HSL.out] at this; exact this)
         have HIC : Hid (i ≤ X.2.2.2.2) := Lib.hid (Nat.le_trans HIL.out (own_le HOL.out).2)
         have HLB : Hid ((X.2.1.list.length + 1) * 16 ≤ 140737488355328) := Lib.hid (ls_big HLN.out HJ.out hn)
         have HRD0 : Hid (∀ a, X.2.2.1 = some a → ¬ a.block = gc) := Lib.hid (fun a ha => HXG.out a.block (by unfold CelX.lv; rw [ha]; rfl))
         have HRD1 : Hid (∀ a, (if X.2.2.2.2 = 0 then X.2.2.1 else X.2.2.1.map (·.add (0 * 1))) = some a → ¬ a.block = gc) := Lib.hid (part_block HRD0.out _ _)
         have HRD2 : Hid (∀ a, (if X.2.2.2.2 = i then X.2.2.1 else X.2.2.1.map (·.add (i * 1))) = some a → ¬ a.block = gc) := Lib.hid (part_block HRD0.out _ _)
         have q4 := (hXA 4 _ rfl).1
         rw [HSL.out] at q4
         have k5 := (hWA 5 _ rfl).1
         have hmin := HMIN.out
         clear hi0 hz0 hz1
         go_wp2
         clear k2 k3 k5 q4 hmin
         refine Flow.wp_region_go (by kernel_rfl) (by kernel_rfl) (by kernel_rfl) 115 rfl (by kernel_rfl) (rc27V gw gc X a5 i) (fun gz L wz => RC wz gw (wrCells (a1, a2, 4, key, a5, (z : Int))) ∧ RC wz gc (insVs X (L 15) gz.2.2.2) ∧ (L 7 = true → L 8 = false → wz.cell? ⟨gz.1, 0, none⟩ = some (.string a5) ∧ wA.heap.size ≤ gz.1 ∧ gz.1 < wz.heap.size) ∧ (L 4 = true → L 8 = false → wz.ownsRow wA.heap.size 9 1 gz.2.1 (0 + i) ([] ++ (strsV X.2.1.list).take i) ∧ (L 7 = true → gz.2.1.ownBlock ≠ some gz.1)) ∧ (L 8 = true → L 13 = false → wz.ownsRow wA.heap.size 9 1 gz.2.2.1 (0 + i + 1) ([] ++ (strsV X.2.1.list).take i ++ [.string a5])) ∧ (L 13 = true → wz.ownsRow wA.heap.size 9 1 (.slice gz.2.2.2.1 gz.2.2.2.2.1 gz.2.2.2.2.2) (0 + i + 1 + (X.2.1.list.length - i)) ([] ++ (strsV X.2.1.list).take i ++ [.string a5] ++ (strsV X.2.1.list).drop i)) ∧ Turned (fun j => j = gc) wA wz) (fun _ _ => False) ((0, undef, undef, none, 0, 0)) (⟨hWA.below (Below.refl _ _).drew, hXA.below (Below.refl _ _).drew, (fun h => by cases h), (fun h => by cases h), (fun h => by cases h), (fun h => by cases h), .of_below (Below.refl _ _).drew⟩) ⟨?_, ?_, ?_, ?_, ?_, ?_, ?_, ?_, ?_, ?_, ?_, ?_, ?_, ?_, ?_, ?_, trivial⟩ ?_ ?_
         ·intro gz L wz K ρ hc0 hf0 hF hO hU hcl hi hd hC hK
          have e11 : ρ (.tmp 11) = .pointer (some ⟨gc, 0, none⟩) := hO 11 (by kernel_rfl)
          simp [go_sem, Flow.ylP_value, Flow.ylP_skip, Flow.ylP_enter, Flow.ylP_panic, hc0, hf0, e11]
          exact hK gz wz hC (fun _ _ => rfl)
         ·intro gz L wz K ρ hc0 hf0 hF hO hU hcl hi hd hC hK
          have d0 : L 0 = true := hd ⟨0, .data⟩ (by simp) rfl
          have e80 : ρ (.tmp 80) = .pointer (some ⟨gc, 4, none⟩) := hF 80 0 (by kernel_rfl) d0
          have h15 : L 15 = false := by cases h : L 15 with | false => rfl | true => (have := hcl 15 1 (by kernel_rfl) h; rw [hi] at this; cases this)
          have cc0 := (hC.2.1 4 _ rfl).1
          rw [h15] at cc0
          have cc := cc0.trans (congrArg some HSL.out)
          simp [go_sem, Flow.ylP_value, Flow.ylP_skip, Flow.ylP_enter, Flow.ylP_panic, hc0, hf0, e80, cc]
          exact hK gz wz hC (fun _ _ => rfl)
         ·intro gz L wz K ρ hc0 hf0 hF hO hU hcl hi hd hC hK
          have e14 : ρ (.tmp 14) = .int .i64 (i : Int) := hO 14 (by kernel_rfl)
          simp [go_sem, Flow.ylP_value, Flow.ylP_skip, Flow.ylP_enter, Flow.ylP_panic, hc0, hf0, e14]
          exact hK gz wz hC (fun _ _ => rfl)
         ·intro gz L wz K ρ hc0 hf0 hF hO hU hcl hi hd hC hK
          have d1 : L 1 = true := hd ⟨1, .data⟩ (by simp) rfl
          have e81 : ρ (.tmp 81) = .slice X.2.2.1 X.2.1.list.length X.2.2.2.2 := hF 81 1 (by kernel_rfl) d1
          have d2 : L 2 = true := hd ⟨2, .data⟩ (by simp) rfl
          have e82 : ρ (.tmp 82) = .int .i64 (i : Int) := hF 82 2 (by kernel_rfl) d2
          have hsl := run_headA X.2.2.1 X.2.1.list.length X.2.2.2.2 i HIC.out wz
          unfold execOp
          simp only [resolve, invoke, builtin, Sem.run_bind, Sem.run_pure, Result.andThen_ok, List.map_toArray, List.map_cons, List.map_nil, Option.map, e81, e82, hsl]
          exact hK gz wz hC (fun _ _ => rfl)
         ·intro gz L wz K ρ hc0 hf0 hF hO hU hcl hi hd hC hK
          have d3 : L 3 = true := hd ⟨3, .data⟩ (by simp) rfl
          have e83 : ρ (.tmp 83) = .slice (if X.2.2.2.2 = 0 then X.2.2.1 else X.2.2.1.map (·.add (0 * 1))) i X.2.2.2.2 := hF 83 3 (by kernel_rfl) d3
          have h8 : L 8 = false := by cases h : L 8 with | false => rfl | true => (have := hcl 8 4 (by kernel_rfl) h; rw [hi] at this; cases this)
          have h13 : L 13 = false := by cases h : L 13 with | false => rfl | true => (have := hcl 13 4 (by kernel_rfl) h; rw [hi] at this; cases this)
          obtain ⟨c1, c2, c3, c4, c5, c6, c7⟩ := hC
          have hrd := (rd_head HOL.out i HIL.out).turned c7 HRD1.out
          obtain ⟨v', w', hrun, hown, hgr⟩ := app_strs (World.ownsRow_nil wz wz.heap.size 9 1) hrd (fun u hu => strsV_one X.2.1.list u (List.mem_of_mem_take hu)) (by have := HLB.out; have := HIL.out; omega) (Nat.le_refl _) 88
          unfold execOp
          simp only [resolve, invoke, builtin, Sem.run_bind, Sem.run_pure, Result.andThen_ok, List.map_toArray, List.map_cons, List.map_nil, hc0, e83, hrun]
          have hb4 : Below wz.heap.size wz w' := ⟨hgr.os, hgr.tape, hgr.output, hgr.size, fun i hi => hgr.block i hi (by intro e; cases e)⟩
          refine hK (gz.1, v', gz.2.2) w' ⟨c1.below hb4, c2.below hb4, fun q q' => (have r := c3 q q'; ⟨(hb4.cell (p := ⟨gz.1, 0, none⟩) r.2.2).trans r.1, r.2.1, Nat.lt_of_lt_of_le r.2.2 hb4.size⟩), fun _ q' => ⟨own_less hown c7.size, fun q e => by have r := c3 q q'; have := (hown.lt _ e).1; omega⟩, fun q => absurd (show L 8 = true from q) (by rw [h8]; decide), fun q => absurd (show L 13 = true from q) (by rw [h13]; decide), c7.trans (.of_below hb4)⟩ (by intro j hj; unfold rc27V; split <;> first | rfl | (rw [hi] at hj; cases hj) | (have hz := hcl _ 4 (by kernel_rfl) hj; rw [hi] at hz; cases hz))
         ·intro gz L wz K ρ hc0 hf0 hF hO hU hcl hi hd hC hK
          have e13 : ρ (.tmp 13) = .pointer (some ⟨gw, 0, none⟩) := hO 13 (by kernel_rfl)
          simp [go_sem, Flow.ylP_value, Flow.ylP_skip, Flow.ylP_enter, Flow.ylP_panic, hc0, hf0, e13]
          exact hK gz wz hC (fun _ _ => rfl)
         ·intro gz L wz K ρ hc0 hf0 hF hO hU hcl hi hd hC hK
          have d5 : L 5 = true := hd ⟨5, .data⟩ (by simp) rfl
          have e85 : ρ (.tmp 85) = .pointer (some ⟨gw, 4, none⟩) := hF 85 5 (by kernel_rfl) d5
          have cc := (hC.1 4 _ rfl).1
          simp [go_sem, Flow.ylP_value, Flow.ylP_skip, Flow.ylP_enter, Flow.ylP_panic, hc0, hf0, e85, cc]
          exact hK gz wz hC (fun _ _ => rfl)
         ·intro gz L wz K ρ hc0 hf0 hF hO hU hcl hi hd hC hK
          have d6 : L 6 = true := hd ⟨6, .data⟩ (by simp) rfl
          have e86 : ρ (.tmp 86) = .string a5 := hF 86 6 (by kernel_rfl) d6
          simp [go_sem, Flow.ylP_value, Flow.ylP_skip, Flow.ylP_enter, Flow.ylP_panic, hc0, hf0, e86]
          have h8 : L 8 = false := by cases h : L 8 with | false => rfl | true => (have := hcl 8 7 (by kernel_rfl) h; rw [hi] at this; cases this)
          have h13 : L 13 = false := by cases h : L 13 with | false => rfl | true => (have := hcl 13 7 (by kernel_rfl) h; rw [hi] at this; cases this)
          obtain ⟨c1, c2, c3, c4, c5, c6, c7⟩ := hC
          have hbn := bel1 wz (.cells #[.string a5] 9)
          refine hK (wz.heap.size, gz.2) _ ⟨c1.below hbn, c2.below hbn, fun _ _ => ⟨by rw [World.cell?_alloc_new]; rfl, c7.size, by simp⟩, fun q q' => (have r := c4 q h8; ⟨r.1.alloc _, fun _ e => by have h0 : wz.heap.size < wz.heap.size := (r.1.lt _ e).2; omega⟩), fun q => absurd (show L 8 = true from q) (by rw [h8]; decide), fun q => absurd (show L 13 = true from q) (by rw [h13]; decide), c7.trans (.of_below hbn)⟩ (by intro j hj; unfold rc27V; split <;> first | rfl | (rw [hi] at hj; cases hj) | (have hz := hcl _ 7 (by kernel_rfl) hj; rw [hi] at hz; cases hz))
         ·intro gz L wz K ρ hc0 hf0 hF hO hU hcl hi hd hC hK
          have d4 : L 4 = true := hd ⟨4, .data⟩ (by simp) rfl
          have e84 : ρ (.tmp 84) = gz.2.1 := hF 84 4 (by kernel_rfl) d4
          have d7 : L 7 = true := hd ⟨7, .data⟩ (by simp) rfl
          have e87 : ρ (.tmp 87) = .slice (some ⟨gz.1, 0, none⟩) 1 1 := hF 87 7 (by kernel_rfl) d7
          have h13 : L 13 = false := by cases h : L 13 with | false => rfl | true => (have := hcl 13 8 (by kernel_rfl) h; rw [hi] at this; cases this)
          obtain ⟨c1, c2, c3, c4, c5, c6, c7⟩ := hC
          obtain ⟨r1, r2⟩ := c4 d4 hi
          obtain ⟨s1, s2, s3⟩ := c3 d7 hi
          have hrd : Rd wz (some ⟨gz.1, 0, none⟩) 1 1 [.string a5] := rd_one s1
          obtain ⟨v', w', hrun, hown, hgr⟩ := app_strs r1 hrd (fun u hu => by simp at hu; subst hu; rfl) (by have := HLB.out; have := HIL.out; omega) c7.size 88
          unfold execOp
          simp only [resolve, invoke, builtin, Sem.run_bind, Sem.run_pure, Result.andThen_ok, List.map_toArray, List.map_cons, List.map_nil, e84, e87, hrun]
          have hT8 : Turned (fun j => gz.2.1.ownBlock = some j) wz w' := ⟨hgr.os, hgr.tape, hgr.output, hgr.size, fun j hj hn => hgr.block j hj (fun e => hn e.symm)⟩
          have hR8 : ∀ j, gz.2.1.ownBlock = some j → wA.heap.size ≤ j := fun j hj => (r1.lt j hj).1
          refine hK (gz.1, gz.2.1, v', gz.2.2.2) w' ⟨c1.turned hT8 (fun e => by have := hR8 _ e; have := HGWL.out; omega), c2.turned hT8 (fun e => by have := hR8 _ e; have := HGCL.out; omega), fun _ q => absurd (show (true : Bool) = false from q) (by decide), fun _ q => absurd (show (true : Bool) = false from q) (by decide), fun _ _ => hown, fun q => absurd (show L 13 = true from q) (by rw [h13]; decide), c7.then hT8 (fun j hj => .inr (hR8 j hj))⟩ (by intro j hj; unfold rc27V; split <;> first | rfl | (rw [hi] at hj; cases hj) | (have hz := hcl _ 8 (by kernel_rfl) hj; rw [hi] at hz; cases hz))
         ·intro gz L wz K ρ hc0 hf0 hF hO hU hcl hi hd hC hK
          have e11 : ρ (.tmp 11) = .pointer (some ⟨gc, 0, none⟩) := hO 11 (by kernel_rfl)
          simp [go_sem, Flow.ylP_value, Flow.ylP_skip, Flow.ylP_enter, Flow.ylP_panic, hc0, hf0, e11]
          exact hK gz wz hC (fun _ _ => rfl)
         ·intro gz L wz K ρ hc0 hf0 hF hO hU hcl hi hd hC hK
          have d9 : L 9 = true := hd ⟨9, .data⟩ (by simp) rfl
          have e89 : ρ (.tmp 89) = .pointer (some ⟨gc, 4, none⟩) := hF 89 9 (by kernel_rfl) d9
          have h15 : L 15 = false := by cases h : L 15 with | false => rfl | true => (have := hcl 15 10 (by kernel_rfl) h; rw [hi] at this; cases this)
          have cc0 := (hC.2.1 4 _ rfl).1
          rw [h15] at cc0
          have cc := cc0.trans (congrArg some HSL.out)
          simp [go_sem, Flow.ylP_value, Flow.ylP_skip, Flow.ylP_enter, Flow.ylP_panic, hc0, hf0, e89, cc]
          exact hK gz wz hC (fun _ _ => rfl)
         ·intro gz L wz K ρ hc0 hf0 hF hO hU hcl hi hd hC hK
          have e14 : ρ (.tmp 14) = .int .i64 (i : Int) := hO 14 (by kernel_rfl)
          simp [go_sem, Flow.ylP_value, Flow.ylP_skip, Flow.ylP_enter, Flow.ylP_panic, hc0, hf0, e14]
          exact hK gz wz hC (fun _ _ => rfl)
         ·intro gz L wz K ρ hc0 hf0 hF hO hU hcl hi hd hC hK
          have d10 : L 10 = true := hd ⟨10, .data⟩ (by simp) rfl
          have e90 : ρ (.tmp 90) = .slice X.2.2.1 X.2.1.list.length X.2.2.2.2 := hF 90 10 (by kernel_rfl) d10
          have d11 : L 11 = true := hd ⟨11, .data⟩ (by simp) rfl
          have e91 : ρ (.tmp 91) = .int .i64 (i : Int) := hF 91 11 (by kernel_rfl) d11
          have hsl := run_restA X.2.2.1 X.2.1.list.length X.2.2.2.2 i HIL.out wz
          unfold execOp
          simp only [resolve, invoke, builtin, Sem.run_bind, Sem.run_pure, Result.andThen_ok, List.map_toArray, List.map_cons, List.map_nil, Option.map, e90, e91, hsl]
          exact hK gz wz hC (fun _ _ => rfl)
         ·intro gz L wz K ρ hc0 hf0 hF hO hU hcl hi hd hC hK
          have d8 : L 8 = true := hd ⟨8, .data⟩ (by simp) rfl
          have e88 : ρ (.tmp 88) = gz.2.2.1 := hF 88 8 (by kernel_rfl) d8
          have d12 : L 12 = true := hd ⟨12, .data⟩ (by simp) rfl
          have e92 : ρ (.tmp 92) = .slice (if X.2.2.2.2 = i then X.2.2.1 else X.2.2.1.map (·.add (i * 1))) (X.2.1.list.length - i) (X.2.2.2.2 - i) := hF 92 12 (by kernel_rfl) d12
          have h15 : L 15 = false := by cases h : L 15 with | false => rfl | true => (have := hcl 15 13 (by kernel_rfl) h; rw [hi] at this; cases this)
          obtain ⟨c1, c2, c3, c4, c5, c6, c7⟩ := hC
          have r1 := c5 d8 hi
          have hrd := (rd_rest HOL.out i HIL.out).turned c7 HRD2.out
          obtain ⟨v', w', hrun, hown, hgr⟩ := app_strs r1 hrd (fun u hu => strsV_one X.2.1.list u (List.mem_of_mem_drop hu)) (by have := HLB.out; have := HIL.out; omega) c7.size 88
          unfold execOp
          simp only [resolve, invoke, builtin, Sem.run_bind, Sem.run_pure, Result.andThen_ok, List.map_toArray, List.map_cons, List.map_nil, e88, e92, hrun]
          have hT8 : Turned (fun j => gz.2.2.1.ownBlock = some j) wz w' := ⟨hgr.os, hgr.tape, hgr.output, hgr.size, fun j hj hn => hgr.block j hj (fun e => hn e.symm)⟩
          have hR8 : ∀ j, gz.2.2.1.ownBlock = some j → wA.heap.size ≤ j := fun j hj => (r1.lt j hj).1
          obtain ⟨A', c', rfl⟩ := own_form hown
          refine hK (gz.1, gz.2.1, gz.2.2.1, A', _, c') w' ⟨c1.turned hT8 (fun e => by have := hR8 _ e; have := HGWL.out; omega), (by show RC w' gc (insVs X (L 15) _); rw [h15]; rw [h15] at c2; exact c2.turned hT8 (fun e => by have := hR8 _ e; have := HGCL.out; omega)), fun _ q => absurd (show L 8 = false from q) (by rw [d8]; decide), fun _ q => absurd (show L 8 = false from q) (by rw [d8]; decide), fun _ q => absurd (show (true : Bool) = false from q) (by decide), fun _ => hown, c7.then hT8 (fun j hj => .inr (hR8 j hj))⟩ (by intro j hj; unfold rc27V; split <;> first | rfl | (rw [hi] at hj; cases hj) | (have hz := hcl _ 13 (by kernel_rfl) hj; rw [hi] at hz; cases hz))
         ·intro gz L wz K ρ hc0 hf0 hF hO hU hcl hi hd hC hK
          have e11 : ρ (.tmp 11) = .pointer (some ⟨gc, 0, none⟩) := hO 11 (by kernel_rfl)
          simp [go_sem, Flow.ylP_value, Flow.ylP_skip, Flow.ylP_enter, Flow.ylP_panic, hc0, hf0, e11]
          exact hK gz wz hC (fun _ _ => rfl)
         ·intro gz L wz K ρ hc0 hf0 hF hO hU hcl hi hd hC hK
          have d14 : L 14 = true := hd ⟨14, .data⟩ (by simp) rfl
          have e94 : ρ (.tmp 94) = .pointer (some ⟨gc, 4, none⟩) := hF 94 14 (by kernel_rfl) d14
          have d13 : L 13 = true := hd ⟨13, .data⟩ (by simp) rfl
          have e93 : ρ (.tmp 93) = .slice gz.2.2.2.1 gz.2.2.2.2.1 gz.2.2.2.2.2 := hF 93 13 (by kernel_rfl) d13
          have fc := (hC.2.1 4 _ rfl).2
          have cc := (hC.2.1 4 _ rfl).1
          rw [hi] at hC
          simp [go_sem, Flow.ylP_value, Flow.ylP_skip, Flow.ylP_enter, Flow.ylP_panic, hc0, hf0, e94, e93, fc, cc]
          obtain ⟨c1, c2, c3, c4, c5, c6, c7⟩ := hC
          have hT : Turned (fun j => j = gc) wz (wz.setCell ⟨gc, 4, none⟩ (.slice gz.2.2.2.1 gz.2.2.2.2.1 gz.2.2.2.2.2)) := .set _ 4 _ rfl
          have r1 := c6 d13
          have t8 : L 8 = true := hcl 13 8 (by kernel_rfl) d13
          refine hK gz _ ⟨c1.turned hT HGW.out, c2.set 4 (.slice gz.2.2.2.1 gz.2.2.2.2.1 gz.2.2.2.2.2) (by simp [insVs]), fun _ q => absurd (show L 8 = false from q) (by rw [t8]; decide), fun _ q => absurd (show L 8 = false from q) (by rw [t8]; decide), fun _ q => absurd (show L 13 = false from q) (by rw [d13]; decide), fun _ => hT.own r1 (fun j hj => by have := (r1.lt j hj).1; have := HGCL.out; omega), c7.trans hT⟩ (fun _ _ => rfl)
         ·intro gz L ch wz h; exact h.elim
         ·intro gz L wz hL hC
          obtain ⟨c1, c2, c3, c4, c5, c6, c7⟩ := hC
          rw [hL 15 (by decide)] at c2
          have o3 := c6 (hL 13 (by decide))
          simp only [Flow.putAll, rc27V]
          simp [Act.put]
          have hY : Inn W gc key l (j2 + 1) (X.1, { X.2.1 with list := insAt X.2.1.list i a5 }, gz.2.2.2.1, gz.2.2.2.2.1, gz.2.2.2.2.2) wz := by
           refine ⟨c2, ⟨?_, fun e => ?_⟩, HIA.out.name, by rw [HST.out _ rfl HX.out, HI.out]; simp [Cel.step], HIA.out.turn.trans c7⟩
           ·show wz.ownsRow W.heap.size 9 1 (.slice gz.2.2.2.1 gz.2.2.2.2.1 gz.2.2.2.2.2) (insAt X.2.1.list i a5).length (strsV (insAt X.2.1.list i a5))
            have e1 : 0 + i + 1 + (X.2.1.list.length - i) = (insAt X.2.1.list i a5).length := by rw [insAt_len]; have := HIL.out; omega
            have e2 : [] ++ (strsV X.2.1.list).take i ++ [Value.string a5] ++ (strsV X.2.1.list).drop i = strsV (insAt X.2.1.list i a5) := by rw [strsV_ins]; simp
            rw [e1, e2] at o3
            exact own_less o3 HIA.out.turn.size
           ·have := congrArg List.length e
            simp only [insAt_len, List.length_nil] at this
            omega
          go_wp2
          go_roundw
          case rel => exact ⟨j2 + 1, _, HJ.out, rfl, hY⟩
          case measure => exact HMS.out
       ·have hne := toList_ne (fun e => hke e.symm : ¬ a4 = key)
        have hne' : (a4.toList == key.toList) = false := by simpa using hne
        have HKE : Hid (¬ a4 = key) := Lib.hid (fun e => hke e.symm)
        clear hke
        go_wp2
        go_roundw
        case rel => exact ⟨j2 + 1, X, HJ.out, rfl, ⟨hInA.rc, hInA.lst, hInA.name, by rw [hInA.cell, cellOf_take HX.out]; exact (if_neg HKE.out).symm, hInA.turn⟩⟩
        case measure => exact HMS.out
      ·obtain rfl : j2 = k := by omega
       have htk : l.take j2 = l := List.take_of_length_le (by rw [hll.out]; exact Nat.le_refl _)
       have hcell := hIn.cell
       rw [htk] at hcell
       have HCE := Lib.hid hcell
       have HNM := Lib.hid hIn.name
       have HSL := Lib.hid hIn.lst.slice
       have ho4 := hIn.turn.own HOC.out (fun q hq e => by have := HOX.out q hq; omega)
       have hLs4 : ∀ y ∈ L, LstOk wr w3.heap.size y := fun y hy => (HLC.out y hy).turned hIn.turn (fun q hq e => by have := HLX.out y hy q hq; omega)
       have hb4 : Below w3.heap.size w3 wr := HBC.out.trans (hIn.turn.below (fun i hi => by rw [hi]; exact HGS.out) HBC.out.size)
       have HX4 := Lib.hid (hIn.lst.less HBC.out.size)
       have HLS4 := Lib.hid hLs4
       have hb4s := hb4.size
       have HLE0 : Hid (L.length ≤ j) := Lib.hid (by
        have h1 := congrArg List.length HG.out
        have h2 := outL_len l (TS.take j)
        have h3 : (TS.take j).length ≤ j := by rw [List.length_take]; omega
        simp only [List.length_map] at h1
        omega)
       have HLE := Lib.hid (cl_len HLE0.out (Nat.le_of_lt hlt) (Nat.le_trans hTk hn))
       obtain ⟨hw63, hw64⟩ := w_suc hlt (Nat.le_trans hTk hn)
       have HJ : Hid (j + 1 ≤ T.length) := Lib.hid hlt
       have HMS : Hid (T.length - (j + 1) < T.length - j) := Lib.hid (meas_nx hlt)
       have HTK : Hid (TS.take (j + 1) = TS.take j ++ [key]) := Lib.hid (take_snoc HKEY.out)
       have q0 := (hIn.rc 0 _ rfl).1
       have q1 := (hIn.rc 1 _ rfl).1
       have q2 := (hIn.rc 2 _ rfl).1
       have q3 := (hIn.rc 3 _ rfl).1
       have q4 := (hIn.rc 4 _ rfl).1
       rw [HSL.out] at q4
       clear hIn hcell hLs4 hj2 hlt2 hlt hj
       go_upto_region 29 with fail
       go_cut [108] (fun v wx => v = .bool X.2.1.full ∧ wx = wr)
       case first =>
        have HF : Hid (X.2.1.full = (X.2.1.has || (X.2.1.sum != 0) || decide (0 < X.2.1.list.length))) := Lib.hid rfl
        obtain ⟨hs, hhs⟩ : ∃ y, y = X.2.1.has := ⟨_, rfl⟩
        obtain ⟨sm, hsm⟩ : ∃ y, y = X.2.1.sum := ⟨_, rfl⟩
        obtain ⟨ln, hln⟩ : ∃ y, y = X.2.1.list.length := ⟨_, rfl⟩
        rw [← hhs] at q1
        rw [← hsm] at q3
        rw [← hln] at q4
        rw [← hhs, ← hsm, ← hln] at HF
        clear hhs hsm hln q0 q2
        cases hs with
        | true =>
         go_wp2
         go_meet
         exact ⟨by rw [HF.out]; rfl, rfl⟩
        | false =>
         by_cases h0 : sm = 0
         ·have d0 : (sm != 0) = false := by rw [h0]; rfl
          by_cases h1 : 0 < ln
          ·have d1 : decide ((0 : Int) < (ln : Int)) = true := decide_eq_true (by omega)
           have HV : Hid ((false || (sm != 0) || decide (0 < ln)) = true) := Lib.hid (by rw [h0]; simp [h1])
           have HD1 : Hid (decide (0 < ln) = true) := Lib.hid (decide_eq_true h1)
           clear h0 h1
           go_wp2
           go_meet
           exact ⟨by rw [HF.out, HV.out, HD1.out], rfl⟩
          ·have d1 : decide ((0 : Int) < (ln : Int)) = false := decide_eq_false (by omega)
           have HV : Hid ((false || (sm != 0) || decide (0 < ln)) = false) := Lib.hid (by rw [h0]; simp [h1])
           have HD1 : Hid (decide (0 < ln) = false) := Lib.hid (decide_eq_false h1)
           clear h0 h1
           go_wp2
           go_meet
           exact ⟨by rw [HF.out, HV.out, HD1.out], rfl⟩
         ·have d0 : (sm != 0) = true := bne_iff_ne.2 h0
          have HV : Hid ((false || (sm != 0) || decide (0 < ln)) = true) := Lib.hid (by rw [d0]; rfl)
          clear h0
          go_wp2
          go_meet
          exact ⟨by rw [HF.out, HV.out], rfl⟩
       case rest =>
        obtain ⟨rfl, rfl⟩ := hcut
        cases hf : X.2.1.full with
        | false =>
         have HG2 : Hid (L.map cutX = outL l (TS.take (j + 1))) := Lib.hid (by rw [HTK.out, outL_snoc, ← HCE.out, hf, HG.out]; simp)
         clear hf q0 q1 q2 q3 q4
         go_wp2
         go_roundw
         case rel => exact ⟨j + 1, L, HJ.out, rfl, ho4, HLS4.out, HG2, hb4⟩
         case measure => exact HMS.out
        | true =>
         have HG2 : Hid ((L ++ [X]).map cutX = outL l (TS.take (j + 1))) := Lib.hid (by rw [HTK.out, outL_snoc, ← HCE.out, hf, if_pos rfl, List.map_append, HG.out]; simp [cutX, HNM.out])
         have HE : Hid (celV X = [.string X.1, .bool X.2.1.has, .string X.2.1.text, .int .i64 X.2.1.sum, .slice X.2.2.1 X.2.1.list.length X.2.2.2.2]) := Lib.hid (by unfold celV; rw [HSL.out])
         clear hf
         go_wp2_with (first
          | (at_builtin; refine wpList_append_own_wide _ rfl (.tmp 109) (.tmp 111) 39 rfl w3.heap.size 90 i0 (.agg #[.string ⟨#[]⟩, .bool false, .string ⟨#[]⟩, .int .i64 0, .slice none 0 0]) 5 72 Tryz.underlying39 hi hz0 hz1 hz2 rfl (by decide) u8 L.length (L.flatMap celV) rfl (ho4.alloc _) ⟨wc.heap.size, 0, none⟩ 1 1 [.string X.1, .bool X.2.1.has, .string X.2.1.text, .int .i64 X.2.1.sum, .slice X.2.2.1 X.2.1.list.length X.2.2.2.2] rfl rfl (cells_at wc [.string X.1, .bool X.2.1.has, .string X.2.1.text, .int .i64 X.2.1.sum, .slice X.2.2.1 X.2.1.list.length X.2.2.2.2] _) (by rw [← HE.out]; exact celV_one X) HLE.out.1 HLE.out.2 (by simp; omega) ?_; intro v5 w5 hO5 hg5 _))
         have hb5 := grown_own (hb4.alloc hb4s _) hg5 (by simp; omega) (ho4.alloc _)
         have hLs5 : ∀ y ∈ L ++ [X], LstOk w5 w3.heap.size y := fun y hy => by
          rcases List.mem_append.1 hy with hy | hy
          ·exact ((HLS4.out y hy).below (bel1 _ _)).kept (ho4.alloc _) hg5
          ·rw [List.mem_singleton.1 hy]
           exact (HX4.out.below (bel1 _ _)).kept (ho4.alloc _) hg5
         have hO6 : w5.ownsRow w3.heap.size 90 5 v5 (L ++ [X]).length ((L ++ [X]).flatMap celV) := by
          rw [List.length_append, List.flatMap_append, List.flatMap_cons, List.flatMap_nil, List.append_nil, HE.out]
          exact hO5
         go_roundw
         case rel => exact ⟨j + 1, L ++ [X], HJ.out, rfl, hO6, hLs5, HG2, hb5⟩
         case measure => exact HMS.out
    ·obtain rfl : j = T.length := by omega
     have htk : TS.take T.length = TS := List.take_of_length_le (by rw [hTS]; exact Nat.le_refl _)
     rw [htk] at HG
     go_wp2_with fail
     go_ret
     exact ⟨_, _, rfl, (OutR.mk ⟨L, HG.out, ho, hLs⟩).less HB3.out.size, HIO.out, HB3.out.trans (hb.mono HB3.out.size)⟩
end Go.Proofs.YtlpkpfpmcppciaaGreatDoor
end
