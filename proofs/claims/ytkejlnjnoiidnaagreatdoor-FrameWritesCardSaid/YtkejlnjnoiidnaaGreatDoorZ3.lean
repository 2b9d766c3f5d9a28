/- match.Right says what tright says; the law's heavy says something.

A buffer of bytes in a block of the call's own. Any program.

A slice of bytes of the call's own, that grows: its cells, and the string that it turns into. Any program.

vary.Put makes what vput says.

match.Text makes what ttext says.

Plain facts on the sum of a text: a table-free sum byte by byte is the sum bit by bit. No program in sight.

A text with its sum behind, and without, in plain Lean. No program in sight.

lz.Write says what twrite says. -/
import Derived.Test.YtkejlnjnoiidnaaGreatDoorZ2
import Derived.Test.YtkejlnjnoiidnaaGreatDoorZ1
import Derived.Laws.IdiomStrings
import Derived.Laws.BytesArg
import Derived.OwnWalk
import Derived.Maps.AppendAt
import Derived.KernelRfl
import Derived.Laws.OwnMore
import Derived.WalkKit
import Derived.WalkLawsBesides
import Derived.WalkSpells
import Derived.Outline
import Derived.Lib.Hide
import Derived.Laws.BitsAllLaws
import Derived.Lib.AppendStr
import Derived.Deep.RegionWith
section
namespace Go.Proofs.YtkejlnjnoiidnaaGreatDoor
open Go.RowKit As
/-- A call that returns yes or no. -/
def IsBool (e : Ending) : Prop := ∃ b, e = .returned (.bool b)
theorem IsBool.of {e : Ending} {b : Bool} (h : e = .returned (.bool b)) : IsBool e := ⟨b, h⟩
set_option maxHeartbeats 2000000 in
set_option maxRecDepth 100000 in
theorem tright_any (w : World) (n c : Nat) (A : Option Addr) (l : List Tok) (hl : Toks w w.heap.size A n l) (hn : n ≤ maxLen) :
    Calls Tryz.prog 130 #[.slice A n c] w fun e w' => ∃ v, e = .returned v ∧ ErrOf w' v (tright l) ∧ Below w.heap.size w w' := by
  unfold maxLen at hn
  have hlen := Lib.hid hl.len
  go_enter Tryz.func130, Tryz.ntmps130
  go_wp2
  go_loopw [3, 4, 5, 6, 7, 10] (fun m _ _ _ _ i wr => ∃ k p : Nat, k ≤ n ∧ i = .int .i64 k ∧ m = .int .i64 p ∧ TAt l k p ∧ Below w.heap.size w wr) (fun _ _ _ _ _ i _ => n - (intOf i).toNat)
  case atStart => exact ⟨0, 0, by omega, rfl, rfl, TAt.zero l, Below.refl _ _⟩
  case round =>
    obtain ⟨k, p, hk, rfl, rfl, hat, hbel⟩ := hrel
    have hp := hat.2
    have Hat := Lib.hid hat
    clear hat
    have hsz := hbel.size
    by_cases hlt : k < n
    · obtain ⟨b, o, s, r, t, rfl, hb, hx, hf, c0, c1, c2⟩ := hl.at_ hlt
      have c0 := (hbel.cell (p := ⟨b, o + k * 3, none⟩) (by simp; omega)).trans c0
      have c1 := (hbel.cell (p := ⟨b, o + k * 3 + 1, none⟩) (by simp; omega)).trans c1
      have c2 := (hbel.cell (p := ⟨b, o + k * 3 + 2, none⟩) (by simp; omega)).trans c2
      have hX := Lib.hid hx
      obtain ⟨f0, f1, f2⟩ := hf
      simp only at f0 f1 f2
      clear hx
      by_cases ha : tokArg (s, r, t)
      · have hres := Lib.hid (Hat.out.arg hX.out ha)
        have hparts : (s.toList.isEmpty = true ∧ (t != 0) = false ∧ (r != 0) = false) ∨ (s.toList.isEmpty = false ∧ (t != 0) = true) ∨ (s.toList.isEmpty = false ∧ (t != 0) = false ∧ (r != 0) = true) := by
          unfold tokArg at ha
          simp only at ha
          rw [str_empty]
          simp only [decide_eq_true_eq, decide_eq_false_iff_not, bne_iff_ne, bne_eq_false_iff_eq]
          omega
        clear ha
        rcases hparts with ⟨d0, d1, d2⟩ | ⟨d0, d1⟩ | ⟨d0, d1, d2⟩
        all_goals
          go_wp2
          go_ret
          exact ⟨_, rfl, ErrOf.of (err_at _ _ 1 k (by omega) (by simp)) hres.out, (hbel.alloc hsz _).alloc (by simp; omega) _⟩
      · by_cases h1 : s.size = 0
        · have hparts : (s.toList.isEmpty = true ∧ (t != 0) = true) ∨ (s.toList.isEmpty = true ∧ (t != 0) = false ∧ (r != 0) = true) := by
            unfold tokArg at ha
            simp only at ha
            rw [str_empty]
            simp only [decide_eq_true_eq, bne_iff_ne, bne_eq_false_iff_eq]
            omega
          have Ha := Lib.hid ha
          have H1 := Lib.hid h1
          clear ha h1
          by_cases h2 : tokRange (s, r, t)
          · have hres := Lib.hid (Hat.out.range hX.out Ha.out H1.out h2)
            have hq : (decide (t < 4) = true) ∨ (decide (t < 4) = false ∧ decide (67 < t) = true) ∨ (decide (t < 4) = false ∧ decide (67 < t) = false ∧ decide (r < 1) = true) ∨ (decide (t < 4) = false ∧ decide (67 < t) = false ∧ decide (r < 1) = false ∧ decide (1024 < r) = true) := by
              unfold tokRange at h2
              simp only at h2
              simp only [decide_eq_true_eq, decide_eq_false_iff_not]
              omega
            clear h2
            rcases hparts with ⟨d0, d1⟩ | ⟨d0, d1, d2⟩
            all_goals
              rcases hq with e0 | ⟨e0, e1⟩ | ⟨e0, e1, e2⟩ | ⟨e0, e1, e2, e3⟩
            all_goals
              go_wp2
              go_ret
              exact ⟨_, rfl, ErrOf.of (err_at _ _ 2 k (by omega) (by simp)) hres.out, (hbel.alloc hsz _).alloc (by simp; omega) _⟩
          · have hq : decide (t < 4) = false ∧ decide (67 < t) = false ∧ decide (r < 1) = false ∧ decide (1024 < r) = false := by
              unfold tokRange at h2
              simp only at h2
              simp only [decide_eq_false_iff_not]
              omega
            obtain ⟨e0, e1, e2, e3⟩ := hq
            have ht : 4 ≤ t ∧ t ≤ 67 ∧ 1 ≤ r ∧ r ≤ 1024 := by unfold tokRange at h2; simp only at h2; omega
            obtain ⟨q0, q1, q2, q3⟩ := ht
            have H2 := Lib.hid h2
            clear h2
            by_cases h3 : (p : Int) < r
            · have hres := Lib.hid (Hat.out.missing hX.out Ha.out H1.out H2.out h3)
              have e4 : decide ((p : Int) < r) = true := by simpa using h3
              clear h3
              rcases hparts with ⟨d0, d1⟩ | ⟨d0, d1, d2⟩
              all_goals
                go_wp2
                go_ret
                exact ⟨_, rfl, ErrOf.of (err_at _ _ 7 k (by omega) (by simp)) hres.out, (hbel.alloc hsz _).alloc (by simp; omega) _⟩
            · have e4 : decide ((p : Int) < r) = false := by simpa using h3
              have H3 := Lib.hid h3
              clear h3
              by_cases h4 : 20000 < p + t.toNat
              · have hres := Lib.hid (Hat.out.big hX.out Ha.out H1.out H2.out H3.out h4)
                have e5 : decide (20000 - (p : Int) < t) = true := by simp; omega
                clear h4
                rcases hparts with ⟨d0, d1⟩ | ⟨d0, d1, d2⟩
                all_goals
                  go_wp2
                  go_ret
                  exact ⟨_, rfl, ErrOf.of (err_at _ _ 4 k (by omega) (by simp)) hres.out, (hbel.alloc hsz _).alloc (by simp; omega) _⟩
              · have hnext := Lib.hid (Hat.out.next hX.out Ha.out H1.out H2.out H3.out h4)
                have e5 : decide (20000 - (p : Int) < t) = false := by simp; omega
                have H4 := Lib.hid h4
                clear h4
                rcases hparts with ⟨d0, d1⟩ | ⟨d0, d1, d2⟩
                all_goals
                  go_wp2
                  go_roundw
                  case rel => exact ⟨k + 1, p + t.toNat, by omega, by go_num, valI (by omega), hnext.out, hbel.alloc hsz _⟩
                  case measure => simp [intOf]; omega
        · have d0 : s.toList.isEmpty = false := str_yes h1
          have hz : t = 0 ∧ r = 0 := by unfold tokArg at ha; simp only at ha; omega
          obtain ⟨rfl, rfl⟩ := hz
          have Ha := Lib.hid ha
          have H1 := Lib.hid h1
          clear ha h1
          by_cases h2 : 20000 < p + s.size
          · have hres := Lib.hid (Hat.out.ownBig hX.out Ha.out H1.out h2)
            have e5 : decide (20000 - (p : Int) < (s.size : Int)) = true := by simp; omega
            clear h2
            go_wp2
            go_ret
            exact ⟨_, rfl, ErrOf.of (err_at _ _ 4 k (by omega) (by simp)) hres.out, (hbel.alloc hsz _).alloc (by simp; omega) _⟩
          · have hnext := Lib.hid (Hat.out.ownNext hX.out Ha.out H1.out h2)
            have e5 : decide (20000 - (p : Int) < (s.size : Int)) = false := by simp; omega
            go_wp2
            go_roundw
            case rel => exact ⟨k + 1, p + s.size, by omega, by go_num, by go_num, hnext.out, hbel.alloc hsz _⟩
            case measure => simp [intOf]; omega
    · obtain rfl : k = n := by omega
      have hend := Lib.hid (Hat.out.all (by rw [hlen.out]; exact Nat.le_refl _))
      clear hlt
      go_wp2
      go_ret
      exact ⟨_, rfl, ErrOf.of .none hend.out, hbel⟩
end Go.Proofs.YtkejlnjnoiidnaaGreatDoor
end

section
namespace Go.Proofs.YtkejlnjnoiidnaaGreatDoor
open Go.RowKit
/-- Block g begins with the bytes l, none of them frozen. -/
def BytesAt (w : World) (g : Nat) (l : List UInt8) : Prop := ∀ i, i < l.length → w.cell? ⟨g, i, none⟩ = some (.int .u8 (l.getD i 0).toNat) ∧ w.frozen? ⟨g, i, none⟩ = false
theorem getD_at {α : Type} (l : List α) (d : α) (i : Nat) (h : i < l.length) : l.getD i d = l[i] := by simp [List.getD, List.getElem?_eq_getElem h]
theorem BytesAt.set {w : World} {g : Nat} {l : List UInt8} (h : BytesAt w g l) (k : Nat) (b : UInt8) (hk : k < l.length) : BytesAt (w.setCell ⟨g, k, none⟩ (.int .u8 b.toNat)) g (l.set k b) := by
  intro i hi
  rw [List.length_set] at hi
  refine ⟨?_, by rw [World.frozen?_setCell]; exact (h i hi).2⟩
  by_cases e : i = k
  · subst e
    rw [World.cell?_setCell_same _ _ _ (h i hi).1]
    rw [getD_at _ _ _ (by simpa using hi)]
    simp
  · rw [World.cell?_setCell_other _ _ _ _ (by intro h'; injection h' with _ h''; exact e h''.symm)]
    rw [(h i hi).1, getD_at l _ _ hi, getD_at (l.set k b) _ _ (by simpa using hi), List.getElem_set_ne (Ne.symm e)]
theorem BytesAt.set_nat {w : World} {g : Nat} {l : List UInt8} (h : BytesAt w g l) (k n : Nat) (hn : n < 256) (hk : k < l.length) : BytesAt (w.setCell ⟨g, k, none⟩ (.int .u8 (n : Int))) g (l.set k (UInt8.ofNat n)) := by
  have e := h.set k (UInt8.ofNat n) hk
  have e2 : ((UInt8.ofNat n).toNat : Int) = (n : Int) := by simp; omega
  rw [e2] at e
  exact e
theorem BytesAt.keep {w w' : World} {g B : Nat} {l : List UInt8} (h : BytesAt w g l) (hb : Below B w w') (hg : g < B) : BytesAt w' g l :=
  fun i hi => ⟨(hb.cell (p := ⟨g, i, none⟩) hg).trans (h i hi).1, (hb.frozen (p := ⟨g, i, none⟩) hg).trans (h i hi).2⟩
theorem BytesAt.drew {w : World} {g : Nat} {l : List UInt8} (h : BytesAt w g l) : BytesAt w.drew g l := h
theorem BytesAt.lt {w : World} {g : Nat} {l : List UInt8} (h : BytesAt w g l) (hl : 0 < l.length) : g < w.heap.size := cell_lt (h 0 hl).1
theorem bytes_of {P : Program} (w : World) (src dst e : TypeId) (s : ByteArray) (hs : P.underlying src = some .string) (hd : P.underlying dst = some (.slice e)) (he : P.underlying e = some (.int .u8)) :
    ∃ C W, (convert src dst (.string s)).run P w = .ok (.slice (some ⟨w.heap.size, 0, none⟩) s.size C) W ∧ BytesAt W w.heap.size s.data.toList ∧ Below w.heap.size w W := by
  refine ⟨_, _, run_bytes_of_string w src dst e s hs hd he, ?_, ?_⟩
  · intro i hi
    have hi' : i < s.size := by simpa using hi
    have hc : (bytesRow s (grownCap w s.size 0 e))[i]? = some (.int .u8 (s.data.toList.getD i 0).toNat) := by
      unfold bytesRow
      rw [Array.getElem?_append_left (by simpa using hi'), getD_at _ _ _ hi]
      simp only [Array.getElem?_map]
      rw [Array.getElem?_eq_getElem (by simpa using hi')]
      simp
    have hz : i < (bytesRow s (grownCap w s.size 0 e)).size := (Array.getElem?_eq_some_iff.1 hc).1
    generalize bytesRow s (grownCap w s.size 0 e) = R at hc hz
    constructor
    · show World.cell? (World.alloc w.drew _) _ = _
      have : (w.drew.alloc (.cells R e (R.size, R.size + 1))).cell? ⟨w.drew.heap.size, i, none⟩ = R[i]? := by
        show (match (w.drew.heap.push (Obj.cells R e (R.size, R.size + 1)))[w.drew.heap.size]? with
          | some (Obj.cells c elem frozen) => c[i]?
          | _ => none) = R[i]?
        rw [Array.getElem?_push_size]
      rw [← hc]
      exact this
    · have : (w.drew.alloc (.cells R e (R.size, R.size + 1))).frozen? ⟨w.drew.heap.size, i, none⟩ = false := by
        simp only [World.alloc, World.frozen?, Array.getElem?_push_size]
        simp
        omega
      exact this
  · exact ((Below.refl _ w).drew).alloc (Nat.le_refl _) _
theorem string_of {P : Program} (w : World) (src e dst : TypeId) (g c : Nat) (l : List UInt8) (hs : P.underlying src = some (.slice e)) (he : P.underlying e = some (.int .u8)) (hd : P.underlying dst = some .string) (h : BytesAt w g l) :
    (convert src dst (.slice (some ⟨g, 0, none⟩) l.length c)).run P w = .ok (.string ⟨l.toArray⟩) w := by
  rw [run_convert_bytes_arg w src e hs he g 0 l.length c (l.map fun b => (b.toNat : Int)) (by simp) (fun i hi => by
    rw [Nat.zero_add, (h i hi).1, getD_at _ _ _ hi]
    simp [List.getD, List.getElem?_eq_getElem hi]) dst hd]
  congr 2
  simp only [strOfNums, List.map_map]
  congr 1
  have e : ((fun n : Int => UInt8.ofNat n.toNat) ∘ fun b : UInt8 => (b.toNat : Int)) = id := by
    funext b
    simp
  rw [e, List.map_id]
end Go.Proofs.YtkejlnjnoiidnaaGreatDoor
end

section
namespace Go.Proofs.YtkejlnjnoiidnaaGreatDoor
open Go.RowKit
abbrev byteV (b : UInt8) : Value := .int .u8 (b.toNat : Int)
abbrev bytesV (l : List UInt8) : List Value := l.map byteV
theorem byteV_of {n : Int} {b : UInt8} (h : n = (b.toNat : Int)) : Value.int .u8 n = byteV b := by rw [h]
theorem string_own {P : Program} {w : World} {base : Nat} {E : TypeId} {A : Option Addr} {n c : Nat} {l : List UInt8} (src e dst : TypeId) (hs : P.underlying src = some (.slice e)) (he : P.underlying e = some (.int .u8)) (hd : P.underlying dst = some .string)
    (h : w.ownsRow base E 1 (.slice A n c) n (bytesV l)) (hl : l.length = n) (hn : 0 < n) : (convert src dst (.slice A n c)).run P w = .ok (.string ⟨l.toArray⟩) w := by
  rcases h.2 with ⟨_, h0⟩ | ⟨g, cap, cur, hv, _, hh, _⟩
  · omega
  · have hA : A = some ⟨g, 0, none⟩ := by injection hv
    subst hA
    subst hl
    refine string_of w src e dst g c l hs he hd fun i hi => ⟨?_, h.frozenAt i⟩
    rw [h.cellAt i (by omega), List.getElem?_map, List.getElem?_eq_getElem hi, getD_at l 0 i hi]
    rfl
end Go.Proofs.YtkejlnjnoiidnaaGreatDoor
end

section
namespace Go.Proofs.YtkejlnjnoiidnaaGreatDoor
open Go.RowKit
theorem byteInfo : (Tryz.prog.info? 5).map (fun i => (i.zero, i.size, i.bytes)) = some (some (.int .u8 0), 1, 1) := by kernel_rfl
theorem cells_new1 (w : World) (v : Value) (t : TypeId) : ∀ j u, ([v] : List Value)[j]? = some u → (w.alloc (.cells #[v] t)).cell? ((⟨w.heap.size, 0, none⟩ : Addr).add j) = some u := by
  intro j u hu
  have hadd : (⟨w.heap.size, 0, none⟩ : Addr).add j = ⟨w.heap.size, j, none⟩ := by unfold Addr.add; split <;> simp_all
  rw [hadd, World.cell?_alloc_new]
  simpa using hu
/-- The lowest seven bits, and one more. -/
theorem low7 (n : Nat) : bits BinOp.or IntKind.u8 (IntKind.u8.wrap (n : Int)) 128 = ((UInt8.ofNat (n % 128 + 128)).toNat : Int) := by
  rw [IntKind.wrap_u8']
  have e1 : (n : Int) % 256 = ((n % 256 : Nat) : Int) := by omega
  rw [e1]
  have e := u8_or_nat (n % 256) 128 (by omega) (by omega)
  have e2 : ((128 : Nat) : Int) = 128 := rfl
  rw [e2] at e
  rw [e]
  have e3 : (UInt8.ofNat (n % 128 + 128)).toNat = n % 128 + 128 := by simp; omega
  rw [e3]
  have e4 : n % 256 ||| 128 = n % 128 + 128 := by
    have hs : n % 256 = n % 128 + 128 * (n / 128 % 2) := by omega
    rcases Nat.mod_two_eq_zero_or_one (n / 128) with h0 | h0
    · rw [h0] at hs
      rw [hs, Nat.mul_zero, Nat.add_zero, Nat.or_comm, nat_join 7 128 (n % 128) (by decide) (by omega), Nat.add_comm]
    · rw [h0] at hs
      rw [hs, Nat.mul_one, Nat.add_comm, ← nat_join 7 128 (n % 128) (by decide) (by omega), Nat.or_assoc, Nat.or_comm (n % 128) 128, ← Nat.or_assoc, Nat.or_self, nat_join 7 128 (n % 128) (by decide) (by omega)]
  rw [e4]
theorem low8 (n : Nat) (h : n < 128) : IntKind.u8.wrap (n : Int) = ((UInt8.ofNat n).toNat : Int) := by
  rw [IntKind.wrap_u8']
  have : (UInt8.ofNat n).toNat = n := by simp; omega
  rw [this]; omega
theorem shr7 (n : Nat) : (n : Int) / 128 = ((n / 128 : Nat) : Int) := by omega
theorem own_snoc {w : World} {base : Nat} {E : TypeId} {v : Value} {l : List UInt8} {b : UInt8} (h : w.ownsRow base E 1 v (l.length + 1) (bytesV l ++ [byteV b])) : w.ownsRow base E 1 v (l ++ [b]).length (bytesV (l ++ [b])) := by
  simpa [bytesV] using h
theorem own_snoc' {w : World} {base : Nat} {E : TypeId} {v : Value} {l : List UInt8} {b : UInt8} (h : w.ownsRow base E 1 v (l.length + 1) (bytesV l ++ [byteV b])) : w.ownsRow base E 1 v (l.length + 1) (bytesV (l ++ [b])) := by
  simpa [bytesV] using h
theorem vput_next {n m : Nat} {l : List UInt8} (h : vput n = l ++ vput m) (hm : ¬ m < 128) : vput n = (l ++ [UInt8.ofNat (m % 128 + 128)]) ++ vput (m / 128) := by rw [h, vput_big hm]; simp
set_option maxHeartbeats 1000000 in
set_option maxRecDepth 100000 in
theorem vput_any (n : Nat) (w : World) (hn : n < 18446744073709551616) :
    Calls Tryz.prog 38 #[.int .u64 (n : Int)] w fun e w' => e = .returned (.string ⟨(vput n).toArray⟩) ∧ Below w.heap.size w w' := by
  obtain ⟨i0, hi, hz0, hz1, hz2⟩ := info_parts byteInfo
  have hlen := vput_len10 hn
  go_enter Tryz.func38, Tryz.ntmps38
  go_wp2
  go_loopw [0, 3] (fun m v wr => ∃ (k : Nat) (l : List UInt8), vput n = l ++ vput k ∧ k < 18446744073709551616 ∧ m = .int .u64 (k : Int) ∧ wr.ownsRow w.heap.size 5 1 v l.length (bytesV l) ∧ Below w.heap.size w wr) (fun m _ _ => (intOf m).toNat)
  case atStart => exact ⟨n, [], rfl, hn, rfl, World.ownsRow_nil _ _ _ _, Below.refl _ _⟩
  case round =>
    obtain ⟨k, l, hv, hk, rfl, hT, hbel⟩ := hrel
    have hB := hbel.size
    have hl10 : l.length ≤ 10 := by rw [hv] at hlen; simp at hlen; omega
    have HV := Lib.hid hv
    clear hv
    by_cases hlt : k < 128
    · have hd : decide (128 ≤ (k : Int)) = false := by simp; omega
      have hend := Lib.hid (show vput n = l ++ [UInt8.ofNat k] by rw [HV.out, vput_small hlt])
      go_wp2_with (first
        | (at_builtin; refine wpList_append_own _ rfl (.tmp 14) (.tmp 17) 61 rfl w.heap.size 5 i0 (.int .u8 0) 1 1 Tryz.underlying61 hi hz0 hz1 hz2 rfl (by decide) u3 l.length (bytesV l) rfl (hT.alloc _) ⟨wr.heap.size, 0, none⟩ 1 1 [Value.int .u8 (k : Int)] rfl rfl (cells_new1 _ _ _) (by intro u hu; simp at hu; subst hu; rfl) (by unfold maxLen; omega) (by omega) (by simp; omega) ?_; intro v1 w1 hT1 hg1 _; have hb1 := grown_own (hbel.alloc hB _) hg1 (by simp; omega) (hT.alloc _)))
      rw [byteV_of (b := UInt8.ofNat k) (by simp; omega)] at hT1
      obtain ⟨A1, c1, rfl⟩ := own_form hT1
      have hs1 := string_own (P := Tryz.prog) 61 5 9 Tryz.underlying61 Tryz.underlying5 Tryz.underlying9 (own_snoc' hT1) (by simp) (by omega)
      rw [hs1]
      go_wp2
      go_ret
      exact ⟨by rw [hend.out]; rfl, hb1⟩
    · have hd : decide (128 ≤ (k : Int)) = true := by simp; omega
      have hnext := Lib.hid (vput_next HV.out hlt)
      have hlow := low7 k
      rw [IntKind.wrap_u8'] at hlow
      have hl9 : l.length ≤ 9 := by
        have h1 := hnext.out
        have h2 := vput_pos (k / 128)
        rw [h1] at hlen
        simp at hlen
        omega
      go_wp2_with (first
        | (at_builtin; refine wpList_append_own _ rfl (.tmp 6) (.tmp 10) 61 rfl w.heap.size 5 i0 (.int .u8 0) 1 1 Tryz.underlying61 hi hz0 hz1 hz2 rfl (by decide) u3 l.length (bytesV l) rfl (hT.alloc _) ⟨wr.heap.size, 0, none⟩ 1 1 [byteV (UInt8.ofNat (k % 128 + 128))] rfl rfl (cells_new1 _ _ _) (by intro u hu; simp at hu; subst hu; rfl) (by unfold maxLen; omega) (by omega) (by simp; omega) ?_; intro v1 w1 hT1 hg1 _; have hb1 := grown_own (hbel.alloc hB _) hg1 (by simp; omega) (hT.alloc _); have hT2 := own_snoc hT1))
      go_roundw
      case rel => exact ⟨k / 128, _, hnext.out, by omega, valI (shr7 k), hT2, hb1⟩
      case measure => simp [intOf]; omega
end Go.Proofs.YtkejlnjnoiidnaaGreatDoor
end

section
namespace Go.Proofs.YtkejlnjnoiidnaaGreatDoor
open Go.RowKit As
theorem strCells_bytes (s : ByteArray) : Lib.strCells s = bytesV s.data.toList := rfl
theorem size_len (s : ByteArray) : s.data.toList.length = s.size := by simp
theorem own_some' {w : World} {B : Nat} {e : TypeId} {size : Nat} {v : Value} {n : Nat} {xs : List Value} (h : w.ownsRow B e size v n xs) (hn : 0 < n) : ∃ g c, v = .slice (some ⟨g, 0, none⟩) n c ∧ B ≤ g ∧ g < w.heap.size := by
  rcases h.2 with ⟨_, h0⟩ | ⟨g, cap, cur, hv, hb, hh, _⟩
  · omega
  · exact ⟨g, cap, hv, hb, (Array.getElem?_eq_some_iff.1 hh).1⟩
/-- The text so far, ahead of token k. -/
def tsofar (l : List Tok) (k : Nat) : List UInt8 := (l.take k).foldl tstep []
theorem tsofar_succ {l : List Tok} {k : Nat} {t : Tok} (h : l[k]? = some t) : tsofar l (k + 1) = tstep (tsofar l k) t := by
  obtain ⟨hk, e⟩ := List.getElem?_eq_some_iff.1 h
  unfold tsofar
  rw [List.take_succ_eq_append_getElem hk, e, List.foldl_append]; rfl
theorem tok_own {l : List Tok} {k n : Nat} {t : Tok} (h : TOk (l.drop k) n) (hx : l[k]? = some t) (h1 : t.1.size ≠ 0) : t.2.1 = 0 ∧ t.2.2 = 0 ∧ n + t.1.size ≤ 20000 ∧ TOk (l.drop (k + 1)) (n + t.1.size) := by
  rw [tdrop hx] at h
  rcases h with ⟨_, a, b, c, d⟩ | ⟨a, _⟩
  · exact ⟨a, b, c, d⟩
  · exact absurd a h1
theorem tok_rep {l : List Tok} {k n : Nat} {t : Tok} (h : TOk (l.drop k) n) (hx : l[k]? = some t) (h1 : t.1.size = 0) : 4 ≤ t.2.2 ∧ t.2.2 ≤ 67 ∧ 1 ≤ t.2.1 ∧ t.2.1 ≤ (n : Int) ∧ n + t.2.2.toNat ≤ 20000 ∧ TOk (l.drop (k + 1)) (n + t.2.2.toNat) := by
  rw [tdrop hx] at h
  rcases h with ⟨a, _⟩ | ⟨_, a, b, c, _, d, e, f⟩
  · exact absurd h1 a
  · exact ⟨a, b, c, d, e, f⟩
theorem TOk.le {l : List Tok} {n : Nat} (h : TOk l n) : n ≤ 20000 := by
  cases l with
  | nil => exact h
  | cons t l => rcases h with ⟨_, _, _, a, _⟩ | ⟨_, _, _, _, _, _, a, _⟩ <;> omega
theorem own_len {w : World} {base : Nat} {E : TypeId} {v : Value} {n m : Nat} {l l' : List UInt8} (h : w.ownsRow base E 1 v n (bytesV l)) (hn : n = m) (hl : l = l') : w.ownsRow base E 1 v m (bytesV l') := by subst hn hl; exact h
theorem bytesV_app (a b : List UInt8) : bytesV a ++ bytesV b = bytesV (a ++ b) := by simp [bytesV]
theorem blk_new (w : World) (o : Obj) : (w.alloc o).heap[w.heap.size]? = some o := by simp only [World.alloc, Array.getElem?_push_size]
theorem blk_lt {w : World} {B : Nat} {o : Obj} (h : w.heap[B]? = some o) : B < w.heap.size := (Array.getElem?_eq_some_iff.1 h).1
theorem blk_below {w w' : World} {B : Nat} {o : Obj} (h : w.heap[B]? = some o) (hb : Below w.heap.size w w') : w'.heap[B]? = some o := (hb.block B (blk_lt h)).trans h
theorem blk_kept {w w' : World} {B base : Nat} {cs : Array Value} {t e : TypeId} {fz : Nat × Nat} {size n : Nat} {v : Value} {xs : List Value} (h : w.heap[B]? = some (.cells cs t fz)) (hT : w.ownsRow base e size v n xs) (hne : t ≠ e) (hg : w.grownBy w' v.ownBlock) : w'.heap[B]? = some (.cells cs t fz) := by
  refine (hg.block B (blk_lt h) fun e0 => ?_).trans h
  rcases hT.2 with ⟨rfl, _⟩ | ⟨g, cap, cur, rfl, _, hh, _⟩
  · simp [Value.ownBlock] at e0
  · simp only [Value.ownBlock, Option.some.injEq] at e0
    subst e0
    rw [hh] at h
    injection h with h
    injection h with _ h2
    exact hne h2.symm
theorem blk_cell {w : World} {B j : Nat} {cs : Array Value} {t : TypeId} {fz : Nat × Nat} {u : Value} (h : w.heap[B]? = some (.cells cs t fz)) (hu : cs[j]? = some u) : w.cell? ⟨B, j, none⟩ = some u := by
  simp only [World.cell?, h]; exact hu
theorem string_ownV {P : Program} {w : World} {base : Nat} {E : TypeId} {v : Value} {l : List UInt8} (src e dst : TypeId) (hs : P.underlying src = some (.slice e)) (he : P.underlying e = some (.int .u8)) (hd : P.underlying dst = some .string)
    (h : w.ownsRow base E 1 v l.length (bytesV l)) : (convert src dst v).run P w = .ok (.string ⟨l.toArray⟩) w := by
  rcases h.2 with ⟨rfl, h0⟩ | ⟨g, cap, cur, rfl, _, hh, _⟩
  · obtain rfl : l = [] := List.length_eq_zero_iff.1 h0
    exact run_convert_bytes_nil w src e hs he 0 0 dst hd
  · refine string_of w src e dst g cap l hs he hd fun i hi => ⟨?_, h.frozenAt i⟩
    rw [h.cellAt i (by omega), List.getElem?_map, List.getElem?_eq_getElem hi, getD_at l 0 i hi]
    rfl
set_option maxHeartbeats 2000000 in
set_option maxRecDepth 100000 in
theorem text_any (w : World) (n c : Nat) (A : Option Addr) (l : List Tok) (hl : Toks w w.heap.size A n l) (hn : n ≤ maxLen) :
    Calls Tryz.prog 115 #[.slice A n c] w fun e w' => ∃ v, e = .returned (.tuple #[.string (textOf l).1, v]) ∧ ErrOf w' v (textOf l).2 ∧ Below w.heap.size w w' := by
  obtain ⟨i0, hi, hz0, hz1, hz2⟩ := info_parts byteInfo
  have hlen := Lib.hid hl.len
  by_cases hbad : (tright l).1 ≠ 0
  · have HB := Lib.hid hbad
    clear hbad
    go_enter Tryz.func115, Tryz.ntmps115
    go_wp2_with fail
    refine (tright_any w n c A l hl hn).mono ?_
    rintro e w1 ⟨v, rfl, hv, hb⟩
    unfold ErrOf at hv
    have hR := Lib.hid (text_bad HB.out)
    have hbad := HB.out
    generalize hF : tright l = f at *
    obtain ⟨e1, p1⟩ := f
    simp only at hv hbad
    have HV := Lib.hid hv
    clear hF
    cases hv with
    | none => exact absurd rfl hbad
    | bare _ he =>
      clear hbad he
      go_wp2
      go_ret2
      rw [hR.out]
      exact ⟨_, rfl, HV.out, hb⟩
    | at_ b o _ _ he h0 h1 =>
      clear hbad he h0 h1
      go_wp2
      go_ret2
      rw [hR.out]
      exact ⟨_, rfl, HV.out, hb⟩
  · have h0 : (tright l).1 = 0 := by omega
    have hok := Lib.hid (tright_ok h0)
    have hpl := tright_place h0
    have hR := Lib.hid (text_good h0)
    have hP := Lib.hid hpl
    clear hbad h0 hpl
    unfold maxLen at hn
    go_enter Tryz.func115, Tryz.ntmps115
    go_wp2_with fail
    refine (tright_any w n c A l hl hn).mono ?_
    rintro e w1 ⟨v, rfl, hv, hb⟩
    rw [hP.out] at hv
    obtain ⟨rfl, _⟩ := ErrIs.zero hv
    have hl1 := hl.grow hb
    clear hv
    go_wp2
    go_loopw [5, 7, 15] (fun v _ i wr => ∃ k : Nat, k ≤ n ∧ i = .int .i64 k ∧ TOk (l.drop k) (tsofar l k).length ∧ wr.ownsRow w1.heap.size 5 1 v (tsofar l k).length (bytesV (tsofar l k)) ∧ Below w1.heap.size w1 wr) (fun _ _ i _ => n - (intOf i).toNat)
    case atStart => exact ⟨0, by omega, rfl, hok.out, World.ownsRow_nil _ _ _ _, Below.refl _ _⟩
    case round =>
      obtain ⟨k, hk, rfl, hto, hT, hbel⟩ := hrel
      have hB := hbel.size
      by_cases hlt : k < n
      · obtain ⟨b, o, s, r, t, rfl, hb', hx, hf, c0, c1, c2⟩ := hl1.at_ hlt
        have c0 := (hbel.cell (p := ⟨b, o + k * 3, none⟩) (by simp; omega)).trans c0
        have c1 := (hbel.cell (p := ⟨b, o + k * 3 + 1, none⟩) (by simp; omega)).trans c1
        have c2 := (hbel.cell (p := ⟨b, o + k * 3 + 2, none⟩) (by simp; omega)).trans c2
        have hsf := Lib.hid (tsofar_succ hx)
        by_cases h1 : s.size = 0
        · obtain ⟨q0, q1, q2, q3, q4, q5⟩ := tok_rep hto hx h1
          simp only at q0 q1 q2 q3 q4 q5
          have hst := Lib.hid (show tsofar l (k + 1) = rep (tsofar l k) r.toNat t.toNat by rw [hsf.out]; unfold tstep; rw [if_neg (by simpa using h1)])
          obtain ⟨z, rfl⟩ := Int.eq_ofNat_of_zero_le (show 0 ≤ t by omega)
          obtain ⟨y, rfl⟩ := Int.eq_ofNat_of_zero_le (show 0 ≤ r by omega)
          rw [Int.toNat_natCast, Int.toNat_natCast] at hst
          rw [Int.toNat_natCast] at q4 q5
          have Q5 := Lib.hid q5
          have X := Lib.hid hx
          have hs0 : s = ⟨#[]⟩ := by
            apply ByteArray.ext
            apply Array.eq_empty_of_size_eq_zero
            simpa using h1
          subst hs0
          have hlr := Lib.hid (rep_len (tsofar l k) y)
          have z0 : (⟨#[]⟩ : ByteArray).size = 0 := rfl
          clear hto hx hf h1 q5 hsf
          generalize hacc : tsofar l k = acc at *
          have HA := Lib.hid hacc
          clear hacc
          go_wp2_with (first
            | (at_builtin; refine Lib.wpList_append_own_string _ rfl (.tmp 19) (.tmp 21) 61 9 rfl w1.heap.size 5 i0 Tryz.underlying61 Tryz.underlying9 hi hz0 hz1 hz2 u5 acc.length (bytesV acc) rfl (hT.alloc _) ⟨#[]⟩ rfl (by unfold maxLen; omega) (by omega) (by simp; omega) ?_; intro v1 w2 hT1 hg1 _; have hb1 := grown_own (hbel.alloc hB _) hg1 (by simp; omega) (hT.alloc _); have hk1 := blk_kept (blk_new wr _) (hT.alloc _) (by decide) hg1; have d1 := blk_cell (j := 1) hk1 rfl; have d2 := blk_cell (j := 2) hk1 rfl))
          rw [strCells_bytes, bytesV_app] at hT1
          have hT2 : w2.ownsRow w1.heap.size 5 1 v1 (rep acc y 0).length (bytesV (rep acc y 0)) := own_len hT1 (by rw [z0]; rfl) (by simp [rep])
          clear hT1 hT
          have hB1 := hb1.size
          clear hg1 hbel c0 c1 c2 hB
          generalize hBB : wr.heap.size = B at *
          clear hBB wr
          go_loopw [5, 25] (fun v i wx => ∃ j : Nat, j ≤ z ∧ i = .int .i64 j ∧ wx.ownsRow w1.heap.size 5 1 v (rep acc y j).length (bytesV (rep acc y j)) ∧ wx.heap[B]? = some (.cells #[.string ⟨#[]⟩, .int .i64 y, .int .i64 z] 174 (0, 0)) ∧ Below w1.heap.size w1 wx) (fun _ i _ => z - (intOf i).toNat)
          case atStart => exact ⟨0, by omega, rfl, hT2, hk1, hb1⟩
          case round =>
            clear hT2 hk1 d1 d2 hb1
            obtain ⟨j, hj, rfl, hT, hk1, hb1⟩ := hrel
            have hB2 := hb1.size
            have d1 := blk_cell (j := 1) hk1 rfl
            have d2 := blk_cell (j := 2) hk1 rfl
            have hL := hlr.out j
            by_cases hlt2 : j < z
            · have hstep := Lib.hid (show rep acc y (j + 1) = rep acc y j ++ [(rep acc y j).getD ((rep acc y j).length - y) 0] from rfl)
              obtain ⟨x, hx⟩ : ∃ x, x = rep acc y j := ⟨_, rfl⟩
              rw [← hx] at hT hL
              have HX := Lib.hid hx
              clear hx
              obtain ⟨g, cp, rfl, hg0, hg1⟩ := own_some' hT (by omega)
              have hin : x.length - y < x.length := by omega
              have e0 : wr.cell? ⟨g, x.length - y, none⟩ = some (byteV (x.getD (x.length - y) 0)) := by
                rw [hT.cellAt _ (by omega), List.getElem?_map, List.getElem?_eq_getElem hin, getD_at _ _ _ hin]; rfl
              have hsub : (x.length : Int) - (y : Int) = ((x.length - y : Nat) : Int) := by omega
              have hlb : B < wr.heap.size := blk_lt hk1
              have hxl : y ≤ x.length := by omega
              have hx2 : x.length ≤ 20000 := by omega
              clear hL
              generalize hby : x.getD (x.length - y) 0 = by_ at *
              have HBY := Lib.hid hby
              clear hby
              go_wp2_with (first
                | (at_builtin; refine wpList_append_own _ rfl (.tmp 27) (.tmp 36) 61 rfl w1.heap.size 5 i0 (.int .u8 0) 1 1 Tryz.underlying61 hi hz0 hz1 hz2 rfl (by decide) _ x.length (bytesV x) rfl (hT.alloc _) ⟨wr.heap.size, 0, none⟩ 1 1 [byteV by_] rfl rfl (cells_new1 _ _ _) (by intro u hu; simp at hu; subst hu; rfl) (by unfold maxLen; omega) (by omega) (by simp; omega) ?_; intro v2 w3 hT3 hg3 _; have hb3 := grown_own (hb1.alloc hB2 _) hg3 (by simp; omega) (hT.alloc _); have hk3 := blk_kept (blk_below hk1 (below1 wr _)) (hT.alloc _) (by decide) hg3; have hT4 := own_snoc hT3))
              go_roundw
              case rel => exact ⟨j + 1, by omega, by go_num, own_len hT4 (by rw [hstep.out, ← HX.out, HBY.out]) (by rw [hstep.out, ← HX.out, HBY.out]), hk3, hb3⟩
              case measure => simp [intOf]; omega
            · obtain rfl : j = z := by omega
              go_wp2
              go_roundw
              case rel => exact ⟨k + 1, by omega, by go_num, by rw [hst.out, hL]; exact Q5.out, own_len hT (by rw [hst.out]) (by rw [hst.out]), hb1⟩
              case measure => simp [intOf]; omega
        · obtain ⟨q0, q1, q2, q3⟩ := tok_own hto hx h1
          simp only at q0 q1 q2 q3
          subst q0 q1
          have hst := Lib.hid (show tsofar l (k + 1) = tsofar l k ++ s.data.toList by rw [hsf.out]; unfold tstep; rw [if_pos h1])
          have Q3 := Lib.hid q3
          have X := Lib.hid hx
          clear hto hx hf h1 q3 hsf
          generalize hacc : tsofar l k = acc at *
          have HA := Lib.hid hacc
          clear hacc
          go_wp2_with (first
            | (at_builtin; refine Lib.wpList_append_own_string _ rfl (.tmp 19) (.tmp 21) 61 9 rfl w1.heap.size 5 i0 Tryz.underlying61 Tryz.underlying9 hi hz0 hz1 hz2 u5 acc.length (bytesV acc) rfl (hT.alloc _) s rfl (by unfold maxLen; omega) (by omega) (by simp; omega) ?_; intro v1 w2 hT1 hg1 _; have hb1 := grown_own (hbel.alloc hB _) hg1 (by simp; omega) (hT.alloc _); have hk1 := blk_kept (blk_new wr _) (hT.alloc _) (by decide) hg1; have d1 := blk_cell (j := 1) hk1 rfl; have d2 := blk_cell (j := 2) hk1 rfl))
          rw [strCells_bytes, bytesV_app] at hT1
          go_loopw [5, 25] (fun v i wx => v = v1 ∧ i = .int .i64 0 ∧ wx = w2) (fun _ i _ => 0 - (intOf i).toNat)
          case atStart => exact ⟨rfl, rfl, rfl⟩
          case round =>
            obtain ⟨rfl, rfl, rfl⟩ := hrel
            go_wp2
            go_roundw
            case rel => exact ⟨k + 1, by omega, by go_num, by rw [hst.out, List.length_append, size_len]; exact Q3.out, own_len hT1 (by rw [hst.out, List.length_append, size_len]) (by rw [hst.out]), hb1⟩
            case measure => simp [intOf]; omega
      · obtain rfl : k = n := by omega
        have hend := Lib.hid (show tsofar l k = ttext l by unfold tsofar ttext; rw [List.take_of_length_le (by rw [hlen.out]; exact Nat.le_refl _)])
        rw [hend.out] at hT
        have hs1 := string_ownV (P := Tryz.prog) 61 5 9 Tryz.underlying61 Tryz.underlying5 Tryz.underlying9 hT
        go_wp2
        go_ret2
        rw [hR.out]
        exact ⟨_, rfl, .none, hb.trans (hbel.mono hb.size)⟩
end Go.Proofs.YtkejlnjnoiidnaaGreatDoor
end

section
namespace Go.Proofs.YtkejlnjnoiidnaaGreatDoor.Crc

def poly : Nat := 2197175160
/-- One bit's step. -/
def stp (n : Nat) : Nat := if n % 2 = 1 then (n / 2) ^^^ poly else n / 2
def iter : Nat → Nat → Nat
  | 0, n => n
  | k + 1, n => iter k (stp n)
def one (n : Nat) : Nat := iter 8 n
/-- A byte's step, as the program takes it. -/
def byteStep (n b : Nat) : Nat := one ((n % 256) ^^^ b) ^^^ (n / 256)
/-- All bytes' steps. -/
def run (n : Nat) (l : List UInt8) : Nat := l.foldl (fun n b => byteStep n b.toNat) n
/-- A bit taken in. -/
def bitStep (n bit : Nat) : Nat := stp (n ^^^ bit)
def bits8 : Nat → Nat → Nat → Nat
  | 0, n, _ => n
  | k + 1, n, b => bits8 k (bitStep n (b % 2)) (b / 2)

theorem xor_half (a b : Nat) : (a ^^^ b) / 2 = (a / 2) ^^^ (b / 2) := Nat.xor_div_two
theorem xor_low (a b : Nat) : (a ^^^ b) % 2 = (a % 2 + b % 2) % 2 := by
  have h := Nat.xor_mod_two_pow (a := a) (b := b) (n := 1)
  simp only [Nat.pow_one] at h
  rw [h]
  rcases Nat.mod_two_eq_zero_or_one a with ha | ha <;> rcases Nat.mod_two_eq_zero_or_one b with hb | hb <;> rw [ha, hb] <;> decide
theorem stp_xor (a b : Nat) : stp (a ^^^ b) = stp a ^^^ stp b := by
  unfold stp
  rw [xor_half, xor_low]
  rcases Nat.mod_two_eq_zero_or_one a with ha | ha <;> rcases Nat.mod_two_eq_zero_or_one b with hb | hb <;> simp [ha, hb]
  · rw [Nat.xor_assoc]
  · rw [Nat.xor_assoc, Nat.xor_assoc, Nat.xor_comm poly (b / 2)]
  · rw [Nat.xor_assoc (a / 2) poly, ← Nat.xor_assoc poly, Nat.xor_comm poly (b / 2), Nat.xor_assoc (b / 2), Nat.xor_self, Nat.xor_zero]
theorem stp_double (b : Nat) : stp (2 * b) = b := by unfold stp; rw [if_neg (by omega)]; omega
theorem iter_xor (k a b : Nat) : iter k (a ^^^ b) = iter k a ^^^ iter k b := by
  induction k generalizing a b with
  | zero => rfl
  | succ k ih => show iter k (stp (a ^^^ b)) = iter k (stp a) ^^^ iter k (stp b); rw [stp_xor, ih]
theorem iter_shift (k b : Nat) : iter k (2 ^ k * b) = b := by
  induction k with
  | zero => simp [iter]
  | succ k ih =>
    show iter k (stp (2 ^ (k + 1) * b)) = b
    have e : 2 ^ (k + 1) * b = 2 * (2 ^ k * b) := by rw [Nat.pow_succ, Nat.mul_comm (2 ^ k) 2, Nat.mul_assoc]
    rw [e, stp_double, ih]
theorem xor_split (k n : Nat) : n = (n % 2 ^ k) ^^^ (2 ^ k * (n / 2 ^ k)) := by
  apply Nat.eq_of_testBit_eq
  intro i
  rw [Nat.testBit_xor, Nat.testBit_mod_two_pow, Nat.testBit_two_pow_mul, Nat.testBit_div_two_pow]
  by_cases h : i < k
  · have h2 : ¬ k ≤ i := by omega
    simp [h, h2]
  · have h2 : k ≤ i := by omega
    simp [h, h2]
theorem bits8_eq (k n b : Nat) : bits8 k n b = iter k (n ^^^ (b % 2 ^ k)) := by
  induction k generalizing n b with
  | zero => simp [bits8, iter, Nat.mod_one]
  | succ k ih =>
    show bits8 k (bitStep n (b % 2)) (b / 2) = iter k (stp (n ^^^ (b % 2 ^ (k + 1))))
    rw [ih]
    congr 1
    have e : b % 2 ^ (k + 1) = (b % 2) ^^^ (2 * (b / 2 % 2 ^ k)) := by
      have h := xor_split 1 (b % 2 ^ (k + 1))
      simp only [Nat.pow_one] at h
      rw [h]
      have h1 : b % 2 ^ (k + 1) % 2 = b % 2 := by
        rw [Nat.pow_succ, Nat.mod_mul_left_mod]
      have h2 : b % 2 ^ (k + 1) / 2 = b / 2 % 2 ^ k := by
        rw [Nat.pow_succ, Nat.mul_comm, Nat.mod_mul_right_div_self]
      rw [h1, h2]
    rw [e, ← Nat.xor_assoc, stp_xor (n ^^^ (b % 2)), stp_double]
    rfl
theorem byteStep_eq (n b : Nat) (hb : b < 256) : byteStep n b = bits8 8 n b := by
  rw [bits8_eq]
  have hb' : b % 2 ^ 8 = b := Nat.mod_eq_of_lt hb
  rw [hb']
  have h := xor_split 8 n
  have e : n ^^^ b = ((n % 256) ^^^ b) ^^^ (2 ^ 8 * (n / 256)) := by
    rw [Nat.xor_assoc, Nat.xor_comm b, ← Nat.xor_assoc]
    congr 1
  rw [e, iter_xor, iter_shift]
  rfl
theorem poly_lt : poly < 4294967296 := by decide
theorem stp_lt {n : Nat} (h : n < 4294967296) : stp n < 4294967296 := by
  unfold stp
  split
  · exact Nat.xor_lt_two_pow (n := 32) (by omega) poly_lt
  · omega
theorem iter_lt (k : Nat) {n : Nat} (h : n < 4294967296) : iter k n < 4294967296 := by
  induction k generalizing n with
  | zero => exact h
  | succ k ih => exact ih (stp_lt h)
theorem iter_succ (k n : Nat) : iter (k + 1) n = stp (iter k n) := by
  induction k generalizing n with
  | zero => rfl
  | succ k ih => show iter (k + 1) (stp n) = stp (iter k (stp n)); exact ih (stp n)
theorem byteStep_lt {n b : Nat} (h : n < 4294967296) (hb : b < 256) : byteStep n b < 4294967296 := by
  unfold byteStep
  refine Nat.xor_lt_two_pow (n := 32) (iter_lt 8 ?_) (by omega)
  have := Nat.xor_lt_two_pow (n := 8) (x := n % 256) (y := b) (by omega) hb
  omega
theorem run_lt {n : Nat} (h : n < 4294967296) (l : List UInt8) : run n l < 4294967296 := by
  induction l generalizing n with
  | nil => exact h
  | cons b l ih => exact ih (byteStep_lt h b.toNat_lt)
theorem run_snoc (n : Nat) (l : List UInt8) (b : UInt8) : run n (l ++ [b]) = byteStep (run n l) b.toNat := by simp [run, List.foldl_append]

/-- After i bits of a text: bit i % 8 of byte i / 8 is taken next. -/
def carried (n : Nat) (l : List UInt8) (i : Nat) : Nat := bits8 (i % 8) (run n (l.take (i / 8))) (l.getD (i / 8) 0).toNat
theorem bits8_snoc (k n b : Nat) : bits8 (k + 1) n b = bitStep (bits8 k n b) (b / 2 ^ k % 2) := by
  induction k generalizing n b with
  | zero => simp [bits8]
  | succ k ih =>
    show bits8 (k + 1) (bitStep n (b % 2)) (b / 2) = _
    rw [ih]
    have e : b / 2 / 2 ^ k = b / 2 ^ (k + 1) := by rw [Nat.div_div_eq_div_mul, Nat.pow_succ, Nat.mul_comm 2]
    rw [e]
    rfl
theorem carried_zero (n : Nat) (l : List UInt8) : carried n l 0 = n := by simp [carried, bits8, run]
theorem carried_succ (n : Nat) (l : List UInt8) (i : Nat) (h : i < 8 * l.length) :
    carried n l (i + 1) = bitStep (carried n l i) ((l.getD (i / 8) 0).toNat / 2 ^ (i % 8) % 2) := by
  unfold carried
  have hi : i / 8 < l.length := by omega
  have hg : l.getD (i / 8) 0 = l[i / 8] := by simp [List.getD, hi]
  rcases Nat.lt_or_ge (i % 8) 7 with h7 | h7
  · have e1 : (i + 1) % 8 = i % 8 + 1 := by omega
    have e2 : (i + 1) / 8 = i / 8 := by omega
    rw [e1, e2, bits8_snoc]
  · have e0 : i % 8 = 7 := by omega
    have e1 : (i + 1) % 8 = 0 := by omega
    have e2 : (i + 1) / 8 = i / 8 + 1 := by omega
    rw [e1, e2, e0, ← bits8_snoc]
    rw [List.take_succ_eq_append_getElem hi, run_snoc, byteStep_eq _ _ (UInt8.toNat_lt _), hg]
    rfl
theorem carried_end (n : Nat) (l : List UInt8) : carried n l (8 * l.length) = run n l := by
  unfold carried
  have e1 : 8 * l.length % 8 = 0 := by omega
  have e2 : 8 * l.length / 8 = l.length := by omega
  rw [e1, e2, List.take_length]
  rfl
theorem bitStep_lt {n b : Nat} (h : n < 4294967296) (hb : b < 2) : bitStep n b < 4294967296 :=
  stp_lt (Nat.xor_lt_two_pow (n := 32) h (by omega))
theorem bits8_lt (k : Nat) {n b : Nat} (h : n < 4294967296) : bits8 k n b < 4294967296 := by
  induction k generalizing n b with
  | zero => exact h
  | succ k ih => exact ih (bitStep_lt h (by omega))
theorem carried_lt {n : Nat} (h : n < 4294967296) (l : List UInt8) (i : Nat) : carried n l i < 4294967296 := bits8_lt _ (run_lt h _)
/-- A bit taken in, as the reference does it. -/
theorem bitStep_ref (n b : Nat) (hb : b < 2) : bitStep n b = if ((n % 2) ^^^ b) = 1 then (n / 2) ^^^ poly else n / 2 := by
  unfold bitStep stp
  rw [xor_half, xor_low]
  have h0 : b / 2 = 0 := by omega
  rw [h0, Nat.xor_zero]
  rcases Nat.mod_two_eq_zero_or_one n with ha | ha <;> rcases (by omega : b = 0 ∨ b = 1) with rfl | rfl <;> simp [ha]
end Go.Proofs.YtkejlnjnoiidnaaGreatDoor.Crc
end

section
namespace Go.Proofs.YtkejlnjnoiidnaaGreatDoor
def crcOf (s : ByteArray) : Nat := 4294967295 - Crc.run 4294967295 s.data.toList
theorem crcOf_lt (s : ByteArray) : crcOf s < 4294967296 := by unfold crcOf; omega
/-- k bytes of a number, the lowest first. -/
def lowB : Nat → Nat → List UInt8
  | 0, _ => []
  | k + 1, n => UInt8.ofNat (n % 256) :: lowB k (n / 256)
theorem lowB_len (k n : Nat) : (lowB k n).length = k := by
  induction k generalizing n with
  | zero => rfl
  | succ k ih => simp [lowB, ih]
theorem lowB_snoc (k n : Nat) : lowB (k + 1) n = lowB k n ++ [UInt8.ofNat (n / 256 ^ k % 256)] := by
  induction k generalizing n with
  | zero => simp [lowB]
  | succ k ih =>
    rw [lowB, ih (n / 256), lowB, Nat.div_div_eq_div_mul, Nat.pow_succ, Nat.mul_comm 256]
    rfl
theorem lowB_four (n : Nat) : lowB 4 n = [UInt8.ofNat (n % 256), UInt8.ofNat (n / 256 % 256), UInt8.ofNat (n / 65536 % 256), UInt8.ofNat (n / 16777216 % 256)] := by
  simp [lowB, Nat.div_div_eq_div_mul]
abbrev four (n : Nat) : ByteArray := strOf (lowB 4 n)
theorem strOf_len (l : List UInt8) : (strOf l).size = l.length := by show l.toArray.size = _; simp
theorem strOf_add (a b : List UInt8) : strOf (a ++ b) = strOf a ++ strOf b := by
  apply ByteArray.ext
  show (a ++ b).toArray = (strOf a ++ strOf b).data
  rw [ByteArray.data_append]
  simp
theorem strOf_nil (s : ByteArray) : s ++ strOf [] = s := by
  apply ByteArray.ext
  rw [ByteArray.data_append]
  simp
theorem nil_strOf (s : ByteArray) : strOf [] ++ s = s := by
  apply ByteArray.ext
  rw [ByteArray.data_append]
  simp
theorem str_assoc (a b c : ByteArray) : a ++ b ++ c = a ++ (b ++ c) := by
  apply ByteArray.ext
  simp only [ByteArray.data_append, Array.append_assoc]
def sealOf (s : ByteArray) : ByteArray := s ++ four (crcOf s)
theorem four_size (n : Nat) : (four n).size = 4 := by rw [strOf_len, lowB_len]
theorem sealOf_size (s : ByteArray) : (sealOf s).size = s.size + 4 := by unfold sealOf; rw [ByteArray.size_append, four_size]
/-- A text without its sum; what is wrong. -/
def openOf (s : ByteArray) : ByteArray × Int := if s.size < 4 then (strOf [], 7) else if sealOf (s.extract 0 (s.size - 4)) = s then (s.extract 0 (s.size - 4), 0) else (strOf [], 15)
theorem open_short {s : ByteArray} (h : s.size < 4) : openOf s = (strOf [], 7) := by unfold openOf; rw [if_pos h]
theorem open_good {s : ByteArray} (h : ¬ s.size < 4) (h2 : sealOf (s.extract 0 (s.size - 4)) = s) : openOf s = (s.extract 0 (s.size - 4), 0) := by unfold openOf; rw [if_neg h, if_pos h2]
theorem open_bad {s : ByteArray} (h : ¬ s.size < 4) (h2 : ¬ sealOf (s.extract 0 (s.size - 4)) = s) : openOf s = (strOf [], 15) := by unfold openOf; rw [if_neg h, if_neg h2]
theorem open_says (s : ByteArray) : ((openOf s).2 = 0 ∧ (openOf s).1.size + 4 = s.size) ∨ openOf s = (strOf [], 7) ∨ openOf s = (strOf [], 15) := by
  by_cases h : s.size < 4
  · exact .inr (.inl (open_short h))
  · by_cases h2 : sealOf (s.extract 0 (s.size - 4)) = s
    · rw [open_good h h2]
      exact .inl ⟨rfl, by simp only [ByteArray.size_extract]; omega⟩
    · exact .inr (.inr (open_bad h h2))
end Go.Proofs.YtkejlnjnoiidnaaGreatDoor
end

section
namespace Go.Proofs.YtkejlnjnoiidnaaGreatDoor
open Go.RowKit As
/-- The bytes so far, ahead of token k. -/
def bsofar (l : List Tok) (k : Nat) : List UInt8 := (l.take k).flatMap tbytes
theorem bsofar_succ {l : List Tok} {k : Nat} {t : Tok} (h : l[k]? = some t) : bsofar l (k + 1) = bsofar l k ++ tbytes t := by
  obtain ⟨hk, e⟩ := List.getElem?_eq_some_iff.1 h
  unfold bsofar
  rw [List.take_succ_eq_append_getElem hk, e, List.flatMap_append]; simp
theorem twrite_bad {l : List Tok} (h : (tright l).1 ≠ 0) : twrite l = (⟨#[]⟩, tright l) := by unfold twrite; rw [if_pos h]
theorem twrite_good {l : List Tok} (h : (tright l).1 = 0) : twrite l = (strOf (l.flatMap tbytes), 0, -1) := by unfold twrite; rw [if_neg (by omega)]
theorem tbytes_own {t : Tok} (h : t.1.size ≠ 0) : tbytes t = vput (2 * t.1.size) ++ t.1.data.toList := by unfold tbytes; rw [if_pos h]
theorem tbytes_rep {t : Tok} (h : t.1.size = 0) : tbytes t = vput (2 * (t.2.2 - 4).toNat + 1) ++ vput (t.2.1 - 1).toNat := by unfold tbytes; rw [if_neg (by omega)]
theorem strOf_toList' (s : ByteArray) : strOf s.data.toList = s := by
  apply ByteArray.ext; simp
theorem vput_is {n : Nat} {V : ByteArray} (hV : Hid (V = strOf (vput n))) (hn : n < 18446744073709551616) (w : World) : Calls Tryz.prog 38 #[.int .u64 (n : Int)] w fun e w' => e = .returned (.string V) ∧ Below w.heap.size w w' :=
  (vput_any n w hn).mono fun _ _ h => ⟨by rw [hV.out]; exact h.1, h.2⟩
theorem vput_short {n : Nat} {V : ByteArray} (hV : Hid (V = strOf (vput n))) (hn : n < 18446744073709551616) : V.size ≤ 10 := by
  rw [hV.out, strOf_len]; exact vput_len10 hn
set_option maxHeartbeats 2000000 in
set_option maxRecDepth 100000 in
theorem twrite_any (w : World) (n c : Nat) (A : Option Addr) (l : List Tok) (hl : Toks w w.heap.size A n l) (hn : n * 32 ≤ 140737488351232) :
    Calls Tryz.prog 95 #[.slice A n c] w fun e w' => ∃ v, e = .returned (.tuple #[.string (twrite l).1, v]) ∧ ErrOf w' v (twrite l).2 ∧ Below w.heap.size w w' := by
  have hlen := Lib.hid hl.len
  have hnM : n ≤ maxLen := by unfold maxLen; omega
  by_cases hbad : (tright l).1 ≠ 0
  · have HB := Lib.hid hbad
    clear hbad
    go_enter Tryz.func95, Tryz.ntmps95
    go_wp2_with fail
    refine (tright_any w n c A l hl hnM).mono ?_
    rintro e w1 ⟨v, rfl, hv, hb⟩
    unfold ErrOf at hv
    have hR := Lib.hid (twrite_bad HB.out)
    have hbad := HB.out
    generalize hF : tright l = f at *
    obtain ⟨e1, p1⟩ := f
    simp only at hv hbad
    have HV := Lib.hid hv
    clear hF
    cases hv with
    | none => exact absurd rfl hbad
    | bare _ he =>
      clear hbad he
      go_wp2
      go_ret2
      rw [hR.out]
      exact ⟨_, rfl, HV.out, hb⟩
    | at_ b o _ _ he h0 h1 =>
      clear hbad he h0 h1
      go_wp2
      go_ret2
      rw [hR.out]
      exact ⟨_, rfl, HV.out, hb⟩
  · have h0 : (tright l).1 = 0 := by omega
    have hok := Lib.hid (tright_ok h0)
    have hpl := tright_place h0
    have hR := Lib.hid (twrite_good h0)
    have hP := Lib.hid hpl
    clear hbad h0 hpl
    go_enter Tryz.func95, Tryz.ntmps95
    go_wp2_with fail
    refine (tright_any w n c A l hl hnM).mono ?_
    rintro e w1 ⟨v, rfl, hv, hb⟩
    rw [hP.out] at hv
    obtain ⟨rfl, _⟩ := ErrIs.zero hv
    have hl1 := hl.grow hb
    clear hv
    go_wp2
    go_loopw [5, 7, 15] (fun v _ i wr => ∃ k q : Nat, k ≤ n ∧ i = .int .i64 k ∧ TOk (l.drop k) q ∧ v = .string (strOf (bsofar l k)) ∧ Hid ((bsofar l k).length ≤ q + 30 * k) ∧ Below w1.heap.size w1 wr) (fun _ _ i _ => n - (intOf i).toNat)
    case atStart => exact ⟨0, 0, by omega, rfl, hok.out, rfl, Lib.hid (by simp [bsofar]), Below.refl _ _⟩
    case round =>
      obtain ⟨k, q, hk, rfl, hto, rfl, hbl, hbel⟩ := hrel
      have hB := hbel.size
      by_cases hlt : k < n
      · obtain ⟨b, o, s, r, t, rfl, hb', hx, hf, c0, c1, c2⟩ := hl1.at_ hlt
        have c0 := (hbel.cell (p := ⟨b, o + k * 3, none⟩) (by simp; omega)).trans c0
        have c1 := (hbel.cell (p := ⟨b, o + k * 3 + 1, none⟩) (by simp; omega)).trans c1
        have c2 := (hbel.cell (p := ⟨b, o + k * 3 + 2, none⟩) (by simp; omega)).trans c2
        have hsf := Lib.hid (bsofar_succ hx)
        have hle := hto.le
        have hTl := strOf_len (bsofar l k)
        have hbl2 := hbl.out
        obtain ⟨T, hT⟩ : ∃ T, T = strOf (bsofar l k) := ⟨_, rfl⟩
        rw [← hT] at hTl ⊢
        have HT := Lib.hid hT
        clear hT
        by_cases h1 : s.size = 0
        · obtain ⟨q0, q1, q2, q3, q4, q5⟩ := tok_rep hto hx h1
          simp only at q0 q1 q2 q3 q4 q5
          have htb := Lib.hid (tbytes_rep (t := (s, r, t)) h1)
          obtain ⟨z, rfl⟩ := Int.eq_ofNat_of_zero_le (show 0 ≤ t by omega)
          obtain ⟨y, rfl⟩ := Int.eq_ofNat_of_zero_le (show 0 ≤ r by omega)
          have hE : s.toList.isEmpty = true := str_no h1
          have e1 : IntKind.i64.wrap ((z : Int) - 4) = ((z - 4 : Nat) : Int) := by rw [IntWalk.i64_in _ (by omega)]; omega
          have e2 : IntKind.i64.wrap ((y : Int) - 1) = ((y - 1 : Nat) : Int) := by rw [IntWalk.i64_in _ (by omega)]; omega
          have X := Lib.hid hx
          have Q5 := Lib.hid q5
          clear hto hx hf h1 q5
          have k0 := Inv.cell (w := wr.alloc (.cells #[.string s, .int .i64 y, .int .i64 z] 174)) (a := ⟨wr.heap.size, 1, none⟩) (v := .int .i64 y) (by rw [World.cell?_alloc_new]; rfl)
          have k1 := Inv.cell (w := wr.alloc (.cells #[.string s, .int .i64 y, .int .i64 z] 174)) (a := ⟨wr.heap.size, 2, none⟩) (v := .int .i64 z) (by rw [World.cell?_alloc_new]; rfl)
          have hlt1 : 2 * (z - 4) + 1 < 18446744073709551616 := by omega
          have hlt2 : y - 1 < 18446744073709551616 := by omega
          have hor := Lib.hid (show bits BinOp.or IntKind.u64 (((z - 4 : Nat) : Int) * 2) 1 = ((2 * (z - 4) + 1 : Nat) : Int) by
            have e := u64_or_nat (2 * (z - 4)) 1 (by omega) (by omega)
            rw [nat_join 1 _ _ (by omega) (by omega)] at e
            rw [← e]
            congr 1
            omega)
          obtain ⟨V, hV⟩ : ∃ V, Hid (V = strOf (vput (2 * (z - 4) + 1))) := ⟨_, Lib.hid rfl⟩
          obtain ⟨U, hU⟩ : ∃ U, Hid (U = strOf (vput (y - 1))) := ⟨_, Lib.hid rfl⟩
          have hVs := vput_short hV hlt1
          have hUs := vput_short hU hlt2
          have z1 : ¬ 9223372036854775807 < V.size + U.size := by omega
          have z2 : ¬ 9223372036854775807 < T.size + (V.size + U.size) := by omega
          have htb2 := Lib.hid (show tbytes (s, (y : Int), (z : Int)) = vput (2 * (z - 4) + 1) ++ vput (y - 1) by
            rw [htb.out]
            have a1 : ((z : Int) - 4).toNat = z - 4 := by omega
            have a2 : ((y : Int) - 1).toNat = y - 1 := by omega
            simp only [a1, a2])
          go_wp2
          refine wp_region_inv (by kernel_rfl) (by kernel_rfl) ?_
          repeat (go_big_quiet_step ((first
            | (go_at_call 38; rw [hor.out]; exact Calls.inv_of (vput_is hV hlt1 _))
            | (go_at_call 38; exact Calls.inv_of (vput_is hU hlt2 _)))))
          refine wpQuiet_nil ?_
          intro _ hw'
          obtain ⟨x, rfl⟩ := hw'
          have hbx := x.below
          go_wp2
          go_roundw
          case rel => exact ⟨k + 1, q + z, by omega, by go_num, Q5.out, by rw [hsf.out, htb2.out, strOf_add, strOf_add, HT.out, hV.out, hU.out], Lib.hid (by rw [hsf.out, htb2.out]; simp only [List.length_append]; have := vput_len10 hlt1; have := vput_len10 hlt2; omega), hbel.trans ((below1 wr _).trans (hbx.mono (by simp)) |>.mono hB)⟩
          case measure => simp [intOf]; omega
        · obtain ⟨q0, q1, q2, q3⟩ := tok_own hto hx h1
          simp only at q0 q1 q2 q3
          subst q0 q1
          have htb := Lib.hid (tbytes_own (t := (s, 0, 0)) h1)
          have hE : s.toList.isEmpty = false := str_yes h1
          have Q3 := Lib.hid q3
          have X := Lib.hid hx
          have hlt64 : 2 * s.size < 18446744073709551616 := by omega
          have hu64 := Lib.hid (show (s.size : Int) * 2 = ((2 * s.size : Nat) : Int) by omega)
          clear hto hx hf h1 q3
          have k0 := Inv.cell (w := wr.alloc (.cells #[.string s, .int .i64 0, .int .i64 0] 174)) (a := ⟨wr.heap.size, 0, none⟩) (v := .string s) (by rw [World.cell?_alloc_new]; rfl)
          obtain ⟨V, hV⟩ : ∃ V, Hid (V = strOf (vput (2 * s.size))) := ⟨_, Lib.hid rfl⟩
          have hVs := vput_short hV hlt64
          have z1 : ¬ 9223372036854775807 < V.size + s.size := by omega
          have z2 : ¬ 9223372036854775807 < T.size + (V.size + s.size) := by omega
          go_wp2
          refine wp_region_inv (by kernel_rfl) (by kernel_rfl) ?_
          repeat (go_big_quiet_step ((first
            | (go_at_call 38; rw [hu64.out]; exact Calls.inv_of (vput_is hV hlt64 _)))))
          refine wpQuiet_nil ?_
          intro _ hw'
          obtain ⟨x, rfl⟩ := hw'
          have hbx := x.below
          go_wp2
          go_roundw
          case rel => exact ⟨k + 1, q + s.size, by omega, by go_num, Q3.out, by rw [hsf.out, htb.out, strOf_add, strOf_add, strOf_toList', HT.out, hV.out], Lib.hid (by rw [hsf.out, htb.out]; simp only [List.length_append, size_len]; have := vput_len10 hlt64; omega), hbel.trans ((below1 wr _).trans (hbx.mono (by simp)) |>.mono hB)⟩
          case measure => simp [intOf]; omega
      · obtain rfl : k = n := by omega
        have hend := Lib.hid (show bsofar l k = l.flatMap tbytes by unfold bsofar; rw [List.take_of_length_le (by rw [hlen.out]; exact Nat.le_refl _)])
        go_wp2
        go_ret2
        rw [hR.out, hend.out]
        exact ⟨_, rfl, .none, hb.trans (hbel.mono hb.size)⟩
end Go.Proofs.YtkejlnjnoiidnaaGreatDoor
end
