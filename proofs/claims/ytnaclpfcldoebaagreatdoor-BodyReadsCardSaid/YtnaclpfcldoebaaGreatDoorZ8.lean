/- How many bytes a number needs, and which they are, in plain Lean. No program in sight.

A buffer of bytes in a block of the call's own. Any program.

A slice of bytes of the call's own, that grows: its cells, and the string that it turns into. Any program.

vary.Put makes what vput says.

Vary of the reference makes what vput says.

span.Put, span.Get and Span, Unspan of the reference say what spanOf and unspan say.

What Zig and Zag, of package vary and of the reference, compute: contracts for other laws (from XZigs).

write.Fill says what wfill says.

A look-up in a map of yes and no that the call made itself, at the operation; what such a map says of a list of keys. Any program.

So many texts with their lengths ahead, one behind the other, in plain Lean. No program in sight. -/
import Derived.Test.YtnaclpfcldoebaaGreatDoorZ2
import Derived.Lib.BitFns
import Derived.Test.YtnaclpfcldoebaaGreatDoorZ1
import Derived.Laws.IdiomStrings
import Derived.Laws.BytesArg
import Derived.OwnWalk
import Derived.Maps.AppendAt
import Derived.KernelRfl
import Derived.Laws.OwnMore
import Derived.WalkKit
import Derived.WalkLawsBesides
import Derived.WalkSpells
import Derived.Outline
import Derived.Lib.Hide
import Derived.Laws.BitsAllLaws
import Derived.Test.YtnaclpfcldoebaaGreatDoorZ3
import Derived.Test.YtnaclpfcldoebaaGreatDoorZ6
import Derived.ProofKit
import Derived.OpenShut
import Derived.Laws.DeepNot64
import Derived.Test.YtnaclpfcldoebaaGreatDoorZ7
import Derived.Maps.Own
import Derived.Maps.OwnOps
import Derived.Maps.OwnSet
import Derived.Maps.Views
section
namespace Go.Proofs.YtnaclpfcldoebaaGreatDoor
theorem bitLen7 : ∀ n : Fin 128, (Lib.bitLen n.val + 6) / 7 ≤ 1 := by decide +kernel
theorem bitLen_pos {n : Nat} (h : n ≠ 0) : 0 < Lib.bitLen n := by
  unfold Lib.bitLen Lib.bitLenAux
  rw [if_neg h]
  omega
theorem vput_size (f : Nat) : ∀ n : Nat, n < 128 ^ f → n < 18446744073709551616 → (vput n).length = max 1 ((Lib.bitLen n + 6) / 7) := by
  induction f with
  | zero =>
    intro n h _
    obtain rfl : n = 0 := by simpa using h
    rw [vput_small (by omega)]
    decide
  | succ f ih =>
    intro n h hn
    by_cases h7 : n < 128
    · rw [vput_small h7]
      have := bitLen7 ⟨n, h7⟩
      simp only at this
      simp
      omega
    · rw [vput_big h7, List.length_cons, ih (n / 128) (by rw [Nat.pow_succ] at h; omega) (by omega)]
      have hs := Lib.bitLen_shift 7 n (by omega) hn
      have hp := bitLen_pos (n := n / 128) (by omega)
      have e : n / 2 ^ 7 = n / 128 := rfl
      rw [hs, e]
      omega
/-- Byte i of a number. -/
def vbyte (n i : Nat) (last : Bool) : UInt8 := if last then UInt8.ofNat (n / 128 ^ i % 128) else UInt8.ofNat (n / 128 ^ i % 128 + 128)
theorem vput_get (i : Nat) : ∀ n : Nat, i < (vput n).length → (vput n)[i]? = some (vbyte n i (decide ((vput n).length = i + 1))) := by
  induction i with
  | zero =>
    intro n h
    by_cases h7 : n < 128
    · rw [vput_small h7]
      simp [vbyte, Nat.mod_eq_of_lt h7]
    · have hp := vput_pos (n / 128)
      rw [vput_big h7]
      have : ¬ (vput (n / 128)).length + 1 = 0 + 1 := by omega
      simp only [List.length_cons, List.getElem?_cons_zero, decide_eq_false this, vbyte]
      simp
  | succ i ih =>
    intro n h
    by_cases h7 : n < 128
    · rw [vput_small h7] at h; simp at h
    · rw [vput_big h7] at h ⊢
      simp only [List.length_cons] at h
      simp only [List.getElem?_cons_succ, List.length_cons]
      rw [ih (n / 128) (by omega)]
      have e : n / 128 / 128 ^ i = n / 128 ^ (i + 1) := by rw [Nat.div_div_eq_div_mul, Nat.pow_succ, Nat.mul_comm]
      have e2 : decide ((vput (n / 128)).length = i + 1) = decide ((vput (n / 128)).length + 1 = i + 1 + 1) := by rw [decide_eq_decide]; omega
      unfold vbyte
      rw [e, e2]
/-- The bytes ahead of byte i, and noughts from there on. -/
def vpart (n i : Nat) : List UInt8 := (vput n).take i ++ List.replicate ((vput n).length - i) 0
theorem vpart_zero (n : Nat) : vpart n 0 = List.replicate (vput n).length 0 := by simp [vpart]
theorem vpart_len (n i : Nat) (h : i ≤ (vput n).length) : (vpart n i).length = (vput n).length := by simp [vpart]; omega
theorem vpart_end (n : Nat) : vpart n (vput n).length = vput n := by simp [vpart]
theorem vpart_set (n i : Nat) (h : i < (vput n).length) : (vpart n i).set i (vbyte n i (decide ((vput n).length = i + 1))) = vpart n (i + 1) := by
  apply List.ext_getElem?
  intro j
  have hl : ((vput n).take i).length = i := by simp; omega
  have hg := vput_get i n h
  unfold vpart
  rw [List.getElem?_set]
  by_cases hij : i = j
  · subst hij
    rw [if_pos rfl, if_pos (by simp; omega), List.getElem?_append_left (by simp; omega), List.getElem?_take, if_pos (by omega), hg]
  · rw [if_neg hij]
    by_cases hj : j < i
    · rw [List.getElem?_append_left (by simp; omega), List.getElem?_append_left (by simp; omega), List.getElem?_take, List.getElem?_take, if_pos hj, if_pos (by omega)]
    · rw [List.getElem?_append_right (by simp; omega), List.getElem?_append_right (by simp; omega)]
      simp only [List.getElem?_replicate, List.length_take]
      by_cases hje : j < (vput n).length
      · rw [if_pos (by omega), if_pos (by omega)]
      · rw [if_neg (by omega), if_neg (by omega)]
end Go.Proofs.YtnaclpfcldoebaaGreatDoor
end

section
namespace Go.Proofs.YtnaclpfcldoebaaGreatDoor
open Go.RowKit
/-- Block g begins with the bytes l, none of them frozen. -/
def BytesAt (w : World) (g : Nat) (l : List UInt8) : Prop := ∀ i, i < l.length → w.cell? ⟨g, i, none⟩ = some (.int .u8 (l.getD i 0).toNat) ∧ w.frozen? ⟨g, i, none⟩ = false
theorem getD_at {α : Type} (l : List α) (d : α) (i : Nat) (h : i < l.length) : l.getD i d = l[i] := by simp [List.getD, List.getElem?_eq_getElem h]
theorem BytesAt.set {w : World} {g : Nat} {l : List UInt8} (h : BytesAt w g l) (k : Nat) (b : UInt8) (hk : k < l.length) : BytesAt (w.setCell ⟨g, k, none⟩ (.int .u8 b.toNat)) g (l.set k b) := by
  intro i hi
  rw [List.length_set] at hi
  refine ⟨?_, by rw [World.frozen?_setCell]; exact (h i hi).2⟩
  by_cases e : i = k
  · subst e
    rw [World.cell?_setCell_same _ _ _ (h i hi).1]
    rw [getD_at _ _ _ (by simpa using hi)]
    simp
  · rw [World.cell?_setCell_other _ _ _ _ (by intro h'; injection h' with _ h''; exact e h''.symm)]
    rw [(h i hi).1, getD_at l _ _ hi, getD_at (l.set k b) _ _ (by simpa using hi), List.getElem_set_ne (Ne.symm e)]
theorem BytesAt.set_nat {w : World} {g : Nat} {l : List UInt8} (h : BytesAt w g l) (k n : Nat) (hn : n < 256) (hk : k < l.length) : BytesAt (w.setCell ⟨g, k, none⟩ (.int .u8 (n : Int))) g (l.set k (UInt8.ofNat n)) := by
  have e := h.set k (UInt8.ofNat n) hk
  have e2 : ((UInt8.ofNat n).toNat : Int) = (n : Int) := by simp; omega
  rw [e2] at e
  exact e
theorem BytesAt.keep {w w' : World} {g B : Nat} {l : List UInt8} (h : BytesAt w g l) (hb : Below B w w') (hg : g < B) : BytesAt w' g l :=
  fun i hi => ⟨(hb.cell (p := ⟨g, i, none⟩) hg).trans (h i hi).1, (hb.frozen (p := ⟨g, i, none⟩) hg).trans (h i hi).2⟩
theorem BytesAt.drew {w : World} {g : Nat} {l : List UInt8} (h : BytesAt w g l) : BytesAt w.drew g l := h
theorem BytesAt.lt {w : World} {g : Nat} {l : List UInt8} (h : BytesAt w g l) (hl : 0 < l.length) : g < w.heap.size := cell_lt (h 0 hl).1
theorem bytes_of {P : Program} (w : World) (src dst e : TypeId) (s : ByteArray) (hs : P.underlying src = some .string) (hd : P.underlying dst = some (.slice e)) (he : P.underlying e = some (.int .u8)) :
    ∃ C W, (convert src dst (.string s)).run P w = .ok (.slice (some ⟨w.heap.size, 0, none⟩) s.size C) W ∧ BytesAt W w.heap.size s.data.toList ∧ Below w.heap.size w W := by
  refine ⟨_, _, run_bytes_of_string w src dst e s hs hd he, ?_, ?_⟩
  · intro i hi
    have hi' : i < s.size := by simpa using hi
    have hc : (bytesRow s (grownCap w s.size 0 e))[i]? = some (.int .u8 (s.data.toList.getD i 0).toNat) := by
      unfold bytesRow
      rw [Array.getElem?_append_left (by simpa using hi'), getD_at _ _ _ hi]
      simp only [Array.getElem?_map]
      rw [Array.getElem?_eq_getElem (by simpa using hi')]
      simp
    have hz : i < (bytesRow s (grownCap w s.size 0 e)).size := (Array.getElem?_eq_some_iff.1 hc).1
    generalize bytesRow s (grownCap w s.size 0 e) = R at hc hz
    constructor
    · show World.cell? (World.alloc w.drew _) _ = _
      have : (w.drew.alloc (.cells R e (R.size, R.size + 1))).cell? ⟨w.drew.heap.size, i, none⟩ = R[i]? := by
        show (match (w.drew.heap.push (Obj.cells R e (R.size, R.size + 1)))[w.drew.heap.size]? with
          | some (Obj.cells c elem frozen) => c[i]?
          | _ => none) = R[i]?
        rw [Array.getElem?_push_size]
      rw [← hc]
      exact this
    · have : (w.drew.alloc (.cells R e (R.size, R.size + 1))).frozen? ⟨w.drew.heap.size, i, none⟩ = false := by
        simp only [World.alloc, World.frozen?, Array.getElem?_push_size]
        simp
        omega
      exact this
  · exact ((Below.refl _ w).drew).alloc (Nat.le_refl _) _
theorem string_of {P : Program} (w : World) (src e dst : TypeId) (g c : Nat) (l : List UInt8) (hs : P.underlying src = some (.slice e)) (he : P.underlying e = some (.int .u8)) (hd : P.underlying dst = some .string) (h : BytesAt w g l) :
    (convert src dst (.slice (some ⟨g, 0, none⟩) l.length c)).run P w = .ok (.string ⟨l.toArray⟩) w := by
  rw [run_convert_bytes_arg w src e hs he g 0 l.length c (l.map fun b => (b.toNat : Int)) (by simp) (fun i hi => by
    rw [Nat.zero_add, (h i hi).1, getD_at _ _ _ hi]
    simp [List.getD, List.getElem?_eq_getElem hi]) dst hd]
  congr 2
  simp only [strOfNums, List.map_map]
  congr 1
  have e : ((fun n : Int => UInt8.ofNat n.toNat) ∘ fun b : UInt8 => (b.toNat : Int)) = id := by
    funext b
    simp
  rw [e, List.map_id]
end Go.Proofs.YtnaclpfcldoebaaGreatDoor
end

section
namespace Go.Proofs.YtnaclpfcldoebaaGreatDoor
open Go.RowKit
abbrev byteV (b : UInt8) : Value := .int .u8 (b.toNat : Int)
abbrev bytesV (l : List UInt8) : List Value := l.map byteV
theorem byteV_of {n : Int} {b : UInt8} (h : n = (b.toNat : Int)) : Value.int .u8 n = byteV b := by rw [h]
theorem string_own {P : Program} {w : World} {base : Nat} {E : TypeId} {A : Option Addr} {n c : Nat} {l : List UInt8} (src e dst : TypeId) (hs : P.underlying src = some (.slice e)) (he : P.underlying e = some (.int .u8)) (hd : P.underlying dst = some .string)
    (h : w.ownsRow base E 1 (.slice A n c) n (bytesV l)) (hl : l.length = n) (hn : 0 < n) : (convert src dst (.slice A n c)).run P w = .ok (.string ⟨l.toArray⟩) w := by
  rcases h.2 with ⟨_, h0⟩ | ⟨g, cap, cur, hv, _, hh, _⟩
  · omega
  · have hA : A = some ⟨g, 0, none⟩ := by injection hv
    subst hA
    subst hl
    refine string_of w src e dst g c l hs he hd fun i hi => ⟨?_, h.frozenAt i⟩
    rw [h.cellAt i (by omega), List.getElem?_map, List.getElem?_eq_getElem hi, getD_at l 0 i hi]
    rfl
end Go.Proofs.YtnaclpfcldoebaaGreatDoor
end

section
namespace Go.Proofs.YtnaclpfcldoebaaGreatDoor
open Go.RowKit
theorem byteInfo : (Tryz.prog.info? 5).map (fun i => (i.zero, i.size, i.bytes)) = some (some (.int .u8 0), 1, 1) := by kernel_rfl
theorem cells_new1 (w : World) (v : Value) (t : TypeId) : ∀ j u, ([v] : List Value)[j]? = some u → (w.alloc (.cells #[v] t)).cell? ((⟨w.heap.size, 0, none⟩ : Addr).add j) = some u := by
  intro j u hu
  have hadd : (⟨w.heap.size, 0, none⟩ : Addr).add j = ⟨w.heap.size, j, none⟩ := by unfold Addr.add; split <;> simp_all
  rw [hadd, World.cell?_alloc_new]
  simpa using hu
/-- The lowest seven bits, and one more. -/
theorem low7 (n : Nat) : bits BinOp.or IntKind.u8 (IntKind.u8.wrap (n : Int)) 128 = ((UInt8.ofNat (n % 128 + 128)).toNat : Int) := by
  rw [IntKind.wrap_u8']
  have e1 : (n : Int) % 256 = ((n % 256 : Nat) : Int) := by omega
  rw [e1]
  have e := u8_or_nat (n % 256) 128 (by omega) (by omega)
  have e2 : ((128 : Nat) : Int) = 128 := rfl
  rw [e2] at e
  rw [e]
  have e3 : (UInt8.ofNat (n % 128 + 128)).toNat = n % 128 + 128 := by simp; omega
  rw [e3]
  have e4 : n % 256 ||| 128 = n % 128 + 128 := by
    have hs : n % 256 = n % 128 + 128 * (n / 128 % 2) := by omega
    rcases Nat.mod_two_eq_zero_or_one (n / 128) with h0 | h0
    · rw [h0] at hs
      rw [hs, Nat.mul_zero, Nat.add_zero, Nat.or_comm, nat_join 7 128 (n % 128) (by decide) (by omega), Nat.add_comm]
    · rw [h0] at hs
      rw [hs, Nat.mul_one, Nat.add_comm, ← nat_join 7 128 (n % 128) (by decide) (by omega), Nat.or_assoc, Nat.or_comm (n % 128) 128, ← Nat.or_assoc, Nat.or_self, nat_join 7 128 (n % 128) (by decide) (by omega)]
  rw [e4]
theorem low8 (n : Nat) (h : n < 128) : IntKind.u8.wrap (n : Int) = ((UInt8.ofNat n).toNat : Int) := by
  rw [IntKind.wrap_u8']
  have : (UInt8.ofNat n).toNat = n := by simp; omega
  rw [this]; omega
theorem shr7 (n : Nat) : (n : Int) / 128 = ((n / 128 : Nat) : Int) := by omega
theorem own_snoc {w : World} {base : Nat} {E : TypeId} {v : Value} {l : List UInt8} {b : UInt8} (h : w.ownsRow base E 1 v (l.length + 1) (bytesV l ++ [byteV b])) : w.ownsRow base E 1 v (l ++ [b]).length (bytesV (l ++ [b])) := by
  simpa [bytesV] using h
theorem own_snoc' {w : World} {base : Nat} {E : TypeId} {v : Value} {l : List UInt8} {b : UInt8} (h : w.ownsRow base E 1 v (l.length + 1) (bytesV l ++ [byteV b])) : w.ownsRow base E 1 v (l.length + 1) (bytesV (l ++ [b])) := by
  simpa [bytesV] using h
theorem vput_next {n m : Nat} {l : List UInt8} (h : vput n = l ++ vput m) (hm : ¬ m < 128) : vput n = (l ++ [UInt8.ofNat (m % 128 + 128)]) ++ vput (m / 128) := by rw [h, vput_big hm]; simp
end Go.Proofs.YtnaclpfcldoebaaGreatDoor
end

section
namespace Go.Proofs.YtnaclpfcldoebaaGreatDoor
open Go.RowKit
end Go.Proofs.YtnaclpfcldoebaaGreatDoor
end

section
namespace Go.Proofs.YtnaclpfcldoebaaGreatDoor
open Go.RowKit As
theorem strOf_size (l : List UInt8) : (strOf l).size = l.length := by show l.toArray.size = _; simp
theorem retT2 {v v' u u' : Value} (h1 : v = v') (h2 : u = u') : Ending.returned (.tuple #[v, u]) = .returned (.tuple #[v', u']) := by rw [h1, h2]
theorem retT3' {v v' u u' x x' : Value} (h1 : v = v') (h2 : u = u') (h3 : x = x') : Ending.returned (.tuple #[v, u, x]) = .returned (.tuple #[v', u', x']) := by rw [h1, h2, h3]
set_option maxRecDepth 100000 in
theorem runspan_any (s : ByteArray) (w : World) (hs : s.size ≤ maxLen) :
    Calls Tryz.prog 16 #[.string s] w fun e w' => e = .returned (.tuple #[.string (unspan s).1, .int .i64 ((unspan s).2.1 : Int), .int .i64 (unspan s).2.2]) ∧ w = w' := by
  have hS := Lib.hid hs
  unfold maxLen at hs
  have hsay := vget_says s.data.toList
  have hU : unspan s = unspan s := rfl
  obtain ⟨u, hu⟩ : ∃ u, u = unspan s := ⟨_, rfl⟩
  rw [← hu]
  unfold unspan at hu
  clear hU
  obtain ⟨g, hg⟩ : ∃ g, g = vget s.data.toList := ⟨_, rfl⟩
  rw [← hg] at hu hsay
  have HG := Lib.hid hg
  clear hg
  obtain ⟨n, k, e⟩ := g
  simp only at hu hsay
  by_cases he : e = 0
  · subst he
    have hb : n < 18446744073709551616 ∧ 0 < k ∧ k ≤ 10 ∧ k ≤ s.size := by
      rcases hsay with h | h | h | h
      · simpa using h
      all_goals (injection h with h1 h2; injection h2 with h2 h3; omega)
    obtain ⟨hn, hk0, hk10, hks⟩ := hb
    clear hsay
    rw [if_neg (by simp)] at hu
    by_cases h1 : 2000 < n
    · rw [if_pos h1] at hu
      subst hu
      go_enter Tryz.func16, Tryz.ntmps16
      go_wp2_with fail
      refine (runvary_any s w hS.out).mono ?_
      rintro r w' ⟨rfl, rfl⟩
      rw [← HG.out]
      go_wp2
      go_ret3
      exact ⟨rfl, rfl⟩
    · rw [if_neg h1] at hu
      by_cases h2 : s.size < n + k
      · rw [if_pos h2] at hu
        subst hu
        go_enter Tryz.func16, Tryz.ntmps16
        go_wp2_with fail
        refine (runvary_any s w hS.out).mono ?_
        rintro r w' ⟨rfl, rfl⟩
        rw [← HG.out]
        go_wp2
        go_ret3
        exact ⟨rfl, rfl⟩
      · rw [if_neg h2] at hu
        subst hu
        go_enter Tryz.func16, Tryz.ntmps16
        go_wp2_with fail
        refine (runvary_any s w hS.out).mono ?_
        rintro r w' ⟨rfl, rfl⟩
        rw [← HG.out]
        go_wp2
        go_ret3
        exact ⟨rfl, rfl⟩
  · rw [if_pos he] at hu
    subst hu
    go_enter Tryz.func16, Tryz.ntmps16
    have hne : (e != 0) = true := by rw [bne_iff_ne]; exact he
    go_wp2_with fail
    refine (runvary_any s w hS.out).mono ?_
    rintro r w' ⟨rfl, rfl⟩
    rw [← HG.out]
    go_wp2
    go_ret3
    exact ⟨rfl, rfl⟩
set_option maxHeartbeats 1000000 in
set_option maxRecDepth 100000 in
theorem spanget_any (s : ByteArray) (w : World) (hs : s.size ≤ maxLen) (hg : Handle w) :
    Calls Tryz.prog 24 #[.string s] w fun e w' => e = .returned (.tuple #[.string (unspan s).1, .int .i64 ((unspan s).2.1 : Int), errV (unspan s).2.2]) ∧ Below w.heap.size w w' := by
  have hS := Lib.hid hs
  unfold maxLen at hs
  have hsay := vget_says s.data.toList
  obtain ⟨u, hu⟩ : ∃ u, u = unspan s := ⟨_, rfl⟩
  rw [← hu]
  unfold unspan at hu
  obtain ⟨v, hv⟩ : ∃ v, v = vint s.data.toList 2000 := ⟨_, rfl⟩
  have HV := Lib.hid hv
  unfold vint at hv
  generalize vget s.data.toList = g at *
  obtain ⟨n, k, e⟩ := g
  simp only at hu hsay hv
  by_cases he : e = 0
  · subst he
    have hb : n < 18446744073709551616 ∧ 0 < k ∧ k ≤ 10 ∧ k ≤ s.size := by
      rcases hsay with h | h | h | h
      · simpa using h
      all_goals (injection h with h1 h2; injection h2 with h2 h3; omega)
    obtain ⟨hn, hk0, hk10, hks⟩ := hb
    clear hsay
    rw [if_neg (by simp)] at hu hv
    by_cases h1 : 2000 < n
    · rw [if_pos h1] at hu
      rw [if_pos (by right; omega)] at hv
      subst hu hv
      go_enter Tryz.func24, Tryz.ntmps24
      go_wp2_with fail
      refine (vint_any s 2000 w hS.out (by omega)).mono ?_
      rintro r w' ⟨rfl, rfl⟩
      rw [← HV.out]
      go_wp2_with fail
      refine (tell_any (errV_is w 2) hg).mono ?_
      rintro r w1 ⟨rfl, hb⟩
      go_wp2
      go_ret3
      exact ⟨rfl, hb⟩
    · rw [if_neg h1] at hu
      rw [if_neg (by omega)] at hv
      subst hv
      by_cases h2 : s.size < n + k
      · rw [if_pos h2] at hu
        subst hu
        go_enter Tryz.func24, Tryz.ntmps24
        go_wp2_with fail
        refine (vint_any s 2000 w hS.out (by omega)).mono ?_
        rintro r w' ⟨rfl, rfl⟩
        rw [← HV.out]
        simp only [errV_zero]
        go_wp2_with fail
        refine (tell_nil w).mono ?_
        rintro r w1 ⟨rfl, rfl⟩
        go_wp2
        go_ret3
        exact ⟨rfl, Below.refl _ _⟩
      · rw [if_neg h2] at hu
        subst hu
        go_enter Tryz.func24, Tryz.ntmps24
        go_wp2_with fail
        refine (vint_any s 2000 w hS.out (by omega)).mono ?_
        rintro r w' ⟨rfl, rfl⟩
        rw [← HV.out]
        simp only [errV_zero]
        go_wp2_with fail
        refine (tell_nil w).mono ?_
        rintro r w1 ⟨rfl, rfl⟩
        go_wp2
        go_ret3
        exact ⟨rfl, Below.refl _ _⟩
  · rw [if_pos he] at hu hv
    subst hu hv
    have he2 : e ≠ 2 := by
      rcases hsay with h | h | h | h
      · exact absurd h.1 he
      all_goals (injection h with h1 h2; injection h2 with h2 h3; omega)
    have hne : (e == 2) = false := beq_eq_false_iff_ne.2 he2
    clear hsay
    have hE := Lib.hid (errV_of he)
    go_enter Tryz.func24, Tryz.ntmps24
    go_wp2_with fail
    refine (vint_any s 2000 w hS.out (by omega)).mono ?_
    rintro r w' ⟨rfl, rfl⟩
    rw [← HV.out]
    simp only [hE.out]
    go_wp2_with fail
    refine (tell_errno e w hg).mono ?_
    rintro r w1 ⟨rfl, hb⟩
    go_wp2
    go_ret3
    exact ⟨retT3' rfl rfl hE.out.symm, hb⟩
end Go.Proofs.YtnaclpfcldoebaaGreatDoor
end

section
namespace Go.Proofs.YtnaclpfcldoebaaGreatDoor.Zg
open Go.ChangeShapes Go.WideShapes Go.ChangeAt Go.RowKit
set_option linter.unusedVariables false

/- Plain facts on bits. -/
theorem xor_zero_u64 (a : Int) : bits .xor .u64 a 0 = a % 18446744073709551616 := by
  show IntKind.u64.wrap ((BitVec.ofInt 64 a ^^^ BitVec.ofInt 64 0).toNat : Int) = _
  have h : BitVec.ofInt 64 0 = 0#64 := by decide
  rw [h, BitVec.xor_zero, IntKind.wrap_u64, BitVec.toNat_ofInt]
  omega
theorem xor_ones_u64 (a : Nat) (ha : a < 18446744073709551616) : bits .xor .u64 (a : Int) 18446744073709551615 = 18446744073709551615 - (a : Int) := by
  show IntKind.u64.wrap ((BitVec.ofInt 64 (a : Int) ^^^ BitVec.ofInt 64 18446744073709551615).toNat : Int) = _
  have h1 : BitVec.ofInt 64 18446744073709551615 = BitVec.allOnes 64 := by decide
  rw [h1, BitVec.xor_allOnes, BitVec.toNat_not, ofInt_u64 a ha, IntKind.wrap_u64]
  omega
theorem xor_zero_i64 (a : Int) (h0 : 0 ≤ a) (h1 : a < 9223372036854775808) : bits .xor .i64 a 0 = a := by
  show IntKind.i64.wrap ((BitVec.ofInt 64 a ^^^ BitVec.ofInt 64 0).toNat : Int) = _
  have h : BitVec.ofInt 64 0 = 0#64 := by decide
  rw [h, BitVec.xor_zero, BitVec.toNat_ofInt]
  simp [IntKind.wrap, IntKind.bits, IntKind.signed]
  omega
theorem xor_ones_i64 (a : Int) (h0 : 0 ≤ a) (h1 : a < 9223372036854775808) : bits .xor .i64 a (-1) = -1 - a := by
  obtain ⟨m, rfl⟩ := Int.eq_ofNat_of_zero_le h0
  have h := i64_not m (by omega)
  have c : bits .xor .i64 (m : Int) (-1) = bits .xor .i64 (-1) (m : Int) := by
    show IntKind.i64.wrap ((BitVec.ofInt 64 (m : Int) ^^^ BitVec.ofInt 64 (-1)).toNat : Int) = IntKind.i64.wrap ((BitVec.ofInt 64 (-1) ^^^ BitVec.ofInt 64 (m : Int)).toNat : Int)
    rw [BitVec.xor_comm]
  rw [c, h]
theorem and_one_u64' (n : Int) (h0 : 0 ≤ n) (h1 : n ≤ 18446744073709551615) : bits .and .u64 n 1 = n % 2 := by
  have h := u64_and n 1 h0 (by omega) (by omega) (by omega)
  rw [h]
  have e : (1 : Int).toNat = 1 := rfl
  rw [e, nat_mask1]
  omega

theorem zig_neg (n : Int) (h0 : -9223372036854775808 ≤ n) (h1 : n < 0) :
    bits BinOp.xor IntKind.u64 (IntKind.u64.wrap (IntKind.u64.wrap n * 2)) (IntKind.u64.wrap (n / 9223372036854775808)) = 2 * -(n + 1) + 1 := by
  have e1 : n / 9223372036854775808 = -1 := by omega
  rw [e1]
  simp only [IntKind.wrap_u64]
  have e2 : (-1 : Int) % 18446744073709551616 = 18446744073709551615 := by decide
  rw [e2]
  have e3 : n % 18446744073709551616 * 2 % 18446744073709551616 = ((2 * n + 18446744073709551616).toNat : Int) := by omega
  rw [e3, xor_ones_u64 _ (by omega)]
  omega
theorem zig_pos (n : Int) (h0 : 0 ≤ n) (h1 : n ≤ 9223372036854775807) :
    bits BinOp.xor IntKind.u64 (IntKind.u64.wrap (IntKind.u64.wrap n * 2)) (IntKind.u64.wrap (n / 9223372036854775808)) = 2 * n := by
  have e1 : n / 9223372036854775808 = 0 := by omega
  rw [e1]
  simp only [IntKind.wrap_u64]
  have e2 : (0 : Int) % 18446744073709551616 = 0 := by decide
  rw [e2, xor_zero_u64]
  omega
theorem zag_even (n : Int) (h0 : 0 ≤ n) (h1 : n ≤ 18446744073709551615) (h2 : n % 2 = 0) :
    bits BinOp.xor IntKind.i64 (n / 2) (wrap64 (-wrap64 (bits BinOp.and IntKind.u64 n 1))) = n / 2 := by
  rw [and_one_u64' n h0 h1, h2]
  have e : wrap64 (-wrap64 0) = 0 := by simp [wrap64]
  rw [e, xor_zero_i64 _ (by omega) (by omega)]
theorem zag_odd (n : Int) (h0 : 0 ≤ n) (h1 : n ≤ 18446744073709551615) (h2 : n % 2 = 1) :
    bits BinOp.xor IntKind.i64 (n / 2) (wrap64 (-wrap64 (bits BinOp.and IntKind.u64 n 1))) = -(n / 2) - 1 := by
  rw [and_one_u64' n h0 h1, h2]
  have e : wrap64 (-wrap64 1) = -1 := by simp [wrap64]
  rw [e, xor_ones_i64 _ (by omega) (by omega)]
  omega

/- What each of the two pairs computes. -/
def zig (n : Int) : Int := if n < 0 then 2 * -(n + 1) + 1 else 2 * n
def zag (n : Int) : Int := if n % 2 = 1 then -(n / 2) - 1 else n / 2
theorem retI {k : IntKind} {a b : Int} (h : a = b) : Ending.returned (.int k a) = .returned (.int k b) := by rw [h]

theorem zag_any (n : Int) (w : World) (h0 : 0 ≤ n) (h1 : n ≤ 18446744073709551615) :
    Calls Tryz.prog 47 #[.int .u64 n] w fun e w' => e = .returned (.int .i64 (zag n)) ∧ w = w' := by
  go_enter Tryz.func47, Tryz.ntmps47
  go_wp2
  go_ret
  refine ⟨retI ?_, rfl⟩
  unfold zag
  split
  · exact zag_odd n h0 h1 (by assumption)
  · exact zag_even n h0 h1 (by omega)
theorem rzag_any (n : Int) (w : World) (h0 : 0 ≤ n) (h1 : n ≤ 18446744073709551615) :
    Calls Tryz.prog 37 #[.int .u64 n] w fun e w' => e = .returned (.int .i64 (zag n)) ∧ w = w' := by
  go_enter Tryz.func37, Tryz.ntmps37
  go_wp2
  · go_ret
    have h : (n % 2 == 1) = true := by assumption
    exact ⟨retI (by unfold zag; rw [if_pos (by simpa using h)]), rfl⟩
  · go_ret
    have h : (n % 2 == 1) = false := by assumption
    exact ⟨retI (by unfold zag; rw [if_neg (by simpa using h)]), rfl⟩

theorem zag_is (n : Nat) : zag (n : Int) = zagN n := by
  unfold zag zagN
  split <;> split <;> omega
theorem zig_is (n : Int) (h0 : -9223372036854775808 ≤ n) : zig n = (zigN n : Int) := by
  unfold zig zigN
  split <;> omega
end Go.Proofs.YtnaclpfcldoebaaGreatDoor.Zg
end

section
namespace Go.Proofs.YtnaclpfcldoebaaGreatDoor
set_option linter.unusedSimpArgs false
open Go.RowKit As
/-- What Fill returns. -/
def fillV (r : Wr × Nat × Int) : Value := .tuple #[wrV r.1.1 r.1.2.1 r.1.2.2.1 r.1.2.2.2.1 r.1.2.2.2.2.1 r.1.2.2.2.2.2, .int .i64 (r.2.1 : Int), errV r.2.2]
theorem cell_ne {w : World} {B i j : Nat} {v u : Value} (h : w.cell? ⟨B, j, none⟩ = some u) (hij : i ≠ j) : (w.setCell ⟨B, i, none⟩ v).cell? ⟨B, j, none⟩ = some u := by
  rw [World.cell?_setCell_other _ _ _ _ (by intro h; injection h with _ h2; exact hij (by first | exact h2 | exact h2.symm | injection h2))]
  exact h
theorem cell_nb {w : World} {B C i j : Nat} {v u : Value} (h : w.cell? ⟨C, j, none⟩ = some u) (hij : B ≠ C) : (w.setCell ⟨B, i, none⟩ v).cell? ⟨C, j, none⟩ = some u := by
  rw [World.cell?_setCell_other _ _ _ _ (by intro h; injection h with h1 _; exact hij (by first | exact h1 | exact h1.symm))]
  exact h
theorem WrAt.val {w : World} {B : Nat} {a b c f : Int} {d e : ByteArray} (h : WrAt w B a b c d e f) (t : ByteArray) : WrAt (w.setCell ⟨B, 4, none⟩ (.string t)) B a b c d t f :=
  ⟨cell_ne h.c0 (by omega), cell_ne h.c1 (by omega), cell_ne h.c2 (by omega), cell_ne h.c3 (by omega), World.cell?_setCell_same _ _ _ h.c4, cell_ne h.c5 (by omega)⟩
theorem WrAt.num {w : World} {B : Nat} {a b c f : Int} {d e : ByteArray} (h : WrAt w B a b c d e f) (n : Int) : WrAt (w.setCell ⟨B, 5, none⟩ (.int .i64 n)) B a b c d e n :=
  ⟨cell_ne h.c0 (by omega), cell_ne h.c1 (by omega), cell_ne h.c2 (by omega), cell_ne h.c3 (by omega), cell_ne h.c4 (by omega), World.cell?_setCell_same _ _ _ h.c5⟩
theorem WrAt.other {w : World} {B C i : Nat} {a b c f : Int} {d e : ByteArray} (h : WrAt w B a b c d e f) (hn : C ≠ B) (v : Value) : WrAt (w.setCell ⟨C, i, none⟩ v) B a b c d e f :=
  ⟨cell_nb h.c0 hn, cell_nb h.c1 hn, cell_nb h.c2 hn, cell_nb h.c3 hn, cell_nb h.c4 hn, cell_nb h.c5 hn⟩
/-- Six cells, written. -/
def put6 (w : World) (R : Nat) (a b c : Int) (d e : ByteArray) (f : Int) : World :=
  (((((w.setCell ⟨R, 0, none⟩ (.int .i64 a)).setCell ⟨R, 1, none⟩ (.int .i64 b)).setCell ⟨R, 2, none⟩ (.int .i64 c)).setCell ⟨R, 3, none⟩ (.string d)).setCell ⟨R, 4, none⟩ (.string e)).setCell ⟨R, 5, none⟩ (.int .i64 f)
theorem WrAt.put {w : World} {B : Nat} {a b c f a' b' c' f' : Int} {d e d' e' : ByteArray} (h : WrAt w B a b c d e f) : WrAt (put6 w B a' b' c' d' e' f') B a' b' c' d' e' f' := by
  obtain ⟨c0, c1, c2, c3, c4, c5⟩ := h
  unfold put6
  have k1 := cell_ne (v := .int .i64 a') c1 (i := 0) (by omega)
  have k2 := cell_ne (v := .int .i64 b') (cell_ne (v := .int .i64 a') c2 (i := 0) (by omega)) (i := 1) (by omega)
  have k3 := cell_ne (v := .int .i64 c') (cell_ne (v := .int .i64 b') (cell_ne (v := .int .i64 a') c3 (i := 0) (by omega)) (i := 1) (by omega)) (i := 2) (by omega)
  have k4 := cell_ne (v := .string d') (cell_ne (v := .int .i64 c') (cell_ne (v := .int .i64 b') (cell_ne (v := .int .i64 a') c4 (i := 0) (by omega)) (i := 1) (by omega)) (i := 2) (by omega)) (i := 3) (by omega)
  have k5 := cell_ne (v := .string e') (cell_ne (v := .string d') (cell_ne (v := .int .i64 c') (cell_ne (v := .int .i64 b') (cell_ne (v := .int .i64 a') c5 (i := 0) (by omega)) (i := 1) (by omega)) (i := 2) (by omega)) (i := 3) (by omega)) (i := 4) (by omega)
  refine ⟨?_, ?_, ?_, ?_, ?_, World.cell?_setCell_same _ _ _ k5⟩
  · exact cell_ne (cell_ne (cell_ne (cell_ne (cell_ne (World.cell?_setCell_same _ _ _ c0) (by omega)) (by omega)) (by omega)) (by omega)) (by omega)
  · exact cell_ne (cell_ne (cell_ne (cell_ne (World.cell?_setCell_same _ _ _ k1) (by omega)) (by omega)) (by omega)) (by omega)
  · exact cell_ne (cell_ne (cell_ne (World.cell?_setCell_same _ _ _ k2) (by omega)) (by omega)) (by omega)
  · exact cell_ne (cell_ne (World.cell?_setCell_same _ _ _ k3) (by omega)) (by omega)
  · exact cell_ne (World.cell?_setCell_same _ _ _ k4) (by omega)
theorem below_put6 {B : Nat} {a w : World} {R : Nat} {a' b' c' f' : Int} {d' e' : ByteArray} (h : Below B a w) (hs : B ≤ R) : Below B a (put6 w R a' b' c' d' e' f') :=
  (((((h.setCell hs _).setCell hs _).setCell hs _).setCell hs _).setCell hs _).setCell hs _
/-- Six cells that may be written. -/
structure Free6 (w : World) (B : Nat) : Prop where
  f0 : w.frozen? ⟨B, 0, none⟩ = false
  f1 : w.frozen? ⟨B, 1, none⟩ = false
  f2 : w.frozen? ⟨B, 2, none⟩ = false
  f3 : w.frozen? ⟨B, 3, none⟩ = false
  f4 : w.frozen? ⟨B, 4, none⟩ = false
  f5 : w.frozen? ⟨B, 5, none⟩ = false
theorem Free6.new (w : World) (a b c f : Int) (d e : ByteArray) : Free6 (w.alloc (wrO a b c d e f)) w.heap.size := ⟨by simp, by simp, by simp, by simp, by simp, by simp⟩
theorem Free6.below {w w' : World} {B : Nat} (h : Free6 w B) (hs : B < w.heap.size) (hb : Below w.heap.size w w') : Free6 w' B :=
  ⟨(hb.frozen hs).trans h.f0, (hb.frozen hs).trans h.f1, (hb.frozen hs).trans h.f2, (hb.frozen hs).trans h.f3, (hb.frozen hs).trans h.f4, (hb.frozen hs).trans h.f5⟩
theorem Free6.set {w : World} {B : Nat} (h : Free6 w B) (C i : Nat) (v : Value) : Free6 (w.setCell ⟨C, i, none⟩ v) B := ⟨by simpa using h.f0, by simpa using h.f1, by simpa using h.f2, by simpa using h.f3, by simpa using h.f4, by simpa using h.f5⟩
-- kinds
set_option maxHeartbeats 2000000 in
set_option maxRecDepth 100000 in
theorem fill1 (a b f : Int) (d e s : ByteArray) (w : World) (hs : s.size ≤ maxLen) (hg : Handle w) :
    Calls Tryz.prog 27 #[wrV a b 1 d e f, .string s] w fun r w' => r = .returned (fillV (wfill (a, b, 1, d, e, f) s)) ∧ Below w.heap.size w w' := by
  have hr := Lib.hid (show wfill (a, b, 1, d, e, f) s = if (unspan s).2.2 ≠ 0 then (noWr, 0, (unspan s).2.2) else wend (a, b, 1, d, (unspan s).1, 0) (unspan s).2.1 from rfl)
  have hW := WrAt.new w a b 1 d ⟨#[]⟩ 0
  have b0 := below1 w (wrO a b 1 d ⟨#[]⟩ 0)
  have hR := WrAt.new (w.alloc (wrO a b 1 d ⟨#[]⟩ 0)) 0 0 0 ⟨#[]⟩ ⟨#[]⟩ 0
  have b1 := below1 (w.alloc (wrO a b 1 d ⟨#[]⟩ 0)) (wrO 0 0 0 ⟨#[]⟩ ⟨#[]⟩ 0)
  have b01 := b0.trans (b1.mono b0.size)
  have gW := (Free6.new w a b 1 0 d ⟨#[]⟩).below (by simp) b1
  have gR := Free6.new (w.alloc (wrO a b 1 d ⟨#[]⟩ 0)) 0 0 0 0 ⟨#[]⟩ ⟨#[]⟩
  rw [World.size_alloc] at gR
  replace hW := hW.below b1
  rw [World.size_alloc] at hR
  have hg1 := hg.below b01
  clear b0 b1
  go_enter Tryz.func27, Tryz.ntmps27
  go_wp2_with fail
  generalize hWW : (w.alloc (wrO a b 1 d ⟨#[]⟩ 0)).alloc (wrO 0 0 0 ⟨#[]⟩ ⟨#[]⟩ 0) = W at *
  have hlt : w.heap.size < W.heap.size := cell_lt hW.c0
  have hlt1 : w.heap.size + 1 < W.heap.size := cell_lt hR.c0
  clear hWW
  refine (spanget_any s _ hs hg1).mono ?_
  rintro r w2 ⟨rfl, hb2⟩
  have hW2 := hW.below hb2
  have hR2 := hR.below hb2
  have gW2 := gW.below hlt hb2
  have gR2 := gR.below hlt1 hb2
  have b02 := b01.trans (hb2.mono b01.size)
  have hlt2 : w.heap.size < w2.heap.size := cell_lt hW2.c0
  have hlt12 : w.heap.size + 1 < w2.heap.size := cell_lt hR2.c0
  clear hW hR gW gR
  generalize unspan s = y at *
  obtain ⟨t, n, q⟩ := y
  simp only at *
  have x4 := hW2.c4
  have g4 := gW2.f4
  have hV := hW2.val t
  have hVR := hR2.other (C := w.heap.size) (i := 4) (by omega) (.string t)
  have bV := b02.setCell (p := ⟨w.heap.size, 4, none⟩) (Nat.le_refl _) (.string t)
  have gVR := gR2.set w.heap.size 4 (.string t)
  have sV : (w2.setCell ⟨w.heap.size, 4, none⟩ (.string t)).heap.size = w2.heap.size := by simp
  clear hW2 hR2 gW2 gR2
  by_cases hq : q = 0
  · subst hq
    rw [errV_zero]
    have hr2 := Lib.hid (hr.out.trans (if_neg (by simp)))
    have HV := hV
    obtain ⟨v0, v1, v2, v3, v4, v5⟩ := hV
    go_wp2_with fail
    refine (wright_any (a, b, 1, d, t, 0) _).mono ?_
    rintro r w3 ⟨rfl, hb3⟩
    have b03 := bV.trans (hb3.mono bV.size)
    have hVR3 := hVR.below hb3
    have gVR3 := gVR.below (by first | omega | (simp; omega)) hb3
    by_cases hw : wright (a, b, 1, d, t, 0) = 0
    · rw [hw, errV_zero]
      have hr3 := Lib.hid (hr2.out.trans (show wend (a, b, 1, d, t, 0) n = _ from if_neg (by simp [hw])))
      have hZ := hVR3.put (a' := a) (b' := b) (c' := 1) (d' := d) (e' := t) (f' := 0)
      obtain ⟨y0, y1, y2, y3, y4, y5⟩ := HV.below hb3
      obtain ⟨u0, u1, u2, u3, u4, u5⟩ := hVR3
      obtain ⟨j0, j1, j2, j3, j4, j5⟩ := gVR3
      clear hw
      go_wp2
      unfold put6 at hZ
      obtain ⟨z0, z1, z2, z3, z4, z5⟩ := hZ
      exact bodyPost_ret (v := .tuple #[.agg #[.int .i64 a, .int .i64 b, .int .i64 1, .string d, .string t, .int .i64 0], .int .i64 ((n : Nat) : Int), .nilIface]) (by simp [results, Tryz.results27, go_sem, z0, z1, z2, z3, z4, z5]) rfl ⟨by rw [hr3.out]; rfl, below_put6 b03 (by omega)⟩
    · rw [errV_of hw]
      have hr3 := Lib.hid (hr2.out.trans (show wend (a, b, 1, d, t, 0) n = _ from if_pos hw))
      have HW := Lib.hid hw
      clear hw
      have hZ := hVR3.put (a' := 0) (b' := 0) (c' := 0) (d' := ⟨#[]⟩) (e' := ⟨#[]⟩) (f' := 0)
      obtain ⟨u0, u1, u2, u3, u4, u5⟩ := hVR3
      obtain ⟨j0, j1, j2, j3, j4, j5⟩ := gVR3
      go_wp2
      unfold put6 at hZ
      obtain ⟨z0, z1, z2, z3, z4, z5⟩ := hZ
      exact bodyPost_ret (v := .tuple #[.agg #[.int .i64 0, .int .i64 0, .int .i64 0, .string ⟨#[]⟩, .string ⟨#[]⟩, .int .i64 0], .int .i64 0, .iface 26 (.int .i64 (wright (a, b, 1, d, t, 0)))]) (by simp [results, Tryz.results27, go_sem, z0, z1, z2, z3, z4, z5]) rfl ⟨by rw [hr3.out]; unfold fillV; rw [errV_of HW.out]; rfl, below_put6 b03 (by omega)⟩
  · rw [errV_of hq]
    have hr2 := Lib.hid (hr.out.trans (if_pos hq))
    have HQ := Lib.hid hq
    clear hq
    have hZ := hVR.put (a' := 0) (b' := 0) (c' := 0) (d' := ⟨#[]⟩) (e' := ⟨#[]⟩) (f' := 0)
    obtain ⟨u0, u1, u2, u3, u4, u5⟩ := hVR
    obtain ⟨j0, j1, j2, j3, j4, j5⟩ := gVR
    go_wp2
    unfold put6 at hZ
    obtain ⟨z0, z1, z2, z3, z4, z5⟩ := hZ
    exact bodyPost_ret (v := .tuple #[.agg #[.int .i64 0, .int .i64 0, .int .i64 0, .string ⟨#[]⟩, .string ⟨#[]⟩, .int .i64 0], .int .i64 0, .iface 26 (.int .i64 q)]) (by simp [results, Tryz.results27, go_sem, z0, z1, z2, z3, z4, z5]) rfl ⟨by rw [hr2.out]; unfold fillV; rw [errV_of HQ.out]; rfl, below_put6 bV (by omega)⟩
set_option maxHeartbeats 2000000 in
set_option maxRecDepth 100000 in
theorem fill3 (a b f : Int) (d e s : ByteArray) (w : World) (hs : s.size ≤ maxLen) (hg : Handle w) :
    Calls Tryz.prog 27 #[wrV a b 3 d e f, .string s] w fun r w' => r = .returned (fillV (wfill (a, b, 3, d, e, f) s)) ∧ Below w.heap.size w w' := by
  have hr := Lib.hid (show wfill (a, b, 3, d, e, f) s = if (vget s.data.toList).2.2 ≠ 0 then (noWr, 0, (vget s.data.toList).2.2) else wend (a, b, 3, d, ⟨#[]⟩, zagN (vget s.data.toList).1) (vget s.data.toList).2.1 from rfl)
  have hx : (vget s.data.toList).1 < 18446744073709551616 := by rcases vget_says s.data.toList with h | h | h | h <;> first | exact h.2.1 | (rw [h]; decide)
  have hW := WrAt.new w a b 3 d ⟨#[]⟩ 0
  have b0 := below1 w (wrO a b 3 d ⟨#[]⟩ 0)
  have hR := WrAt.new (w.alloc (wrO a b 3 d ⟨#[]⟩ 0)) 0 0 0 ⟨#[]⟩ ⟨#[]⟩ 0
  have b1 := below1 (w.alloc (wrO a b 3 d ⟨#[]⟩ 0)) (wrO 0 0 0 ⟨#[]⟩ ⟨#[]⟩ 0)
  have b01 := b0.trans (b1.mono b0.size)
  have gW := (Free6.new w a b 3 0 d ⟨#[]⟩).below (by simp) b1
  have gR := Free6.new (w.alloc (wrO a b 3 d ⟨#[]⟩ 0)) 0 0 0 0 ⟨#[]⟩ ⟨#[]⟩
  rw [World.size_alloc] at gR
  replace hW := hW.below b1
  rw [World.size_alloc] at hR
  have hg1 := hg.below b01
  clear b0 b1
  go_enter Tryz.func27, Tryz.ntmps27
  go_wp2_with fail
  generalize hWW : (w.alloc (wrO a b 3 d ⟨#[]⟩ 0)).alloc (wrO 0 0 0 ⟨#[]⟩ ⟨#[]⟩ 0) = W at *
  have hlt : w.heap.size < W.heap.size := cell_lt hW.c0
  have hlt1 : w.heap.size + 1 < W.heap.size := cell_lt hR.c0
  clear hWW
  refine (vget_any s _ hs).mono ?_
  rintro r w2 ⟨rfl, rfl⟩
  generalize vget s.data.toList = y at *
  obtain ⟨x, n, q⟩ := y
  simp only at *
  go_wp2_with fail
  refine (Zg.zag_any (x : Int) _ (by omega) (by omega)).mono ?_
  rintro r w2 ⟨rfl, rfl⟩
  rw [Zg.zag_is]
  have x5 := hW.c5
  have g5 := gW.f5
  have hV := hW.num (zagN x)
  have hVR := hR.other (C := w.heap.size) (i := 5) (by omega) (.int .i64 (zagN x))
  have bV := b01.setCell (p := ⟨w.heap.size, 5, none⟩) (Nat.le_refl _) (.int .i64 (zagN x))
  have gVR := gR.set w.heap.size 5 (.int .i64 (zagN x))
  have sV : (W.setCell ⟨w.heap.size, 5, none⟩ (.int .i64 (zagN x))).heap.size = W.heap.size := by simp
  clear hW hR gW gR
  by_cases hq : q = 0
  · subst hq
    rw [errV_zero]
    have hr2 := Lib.hid (hr.out.trans (if_neg (by simp)))
    have HV := hV
    obtain ⟨v0, v1, v2, v3, v4, v5⟩ := hV
    go_wp2_with fail
    refine (wright_any (a, b, 3, d, ⟨#[]⟩, (zagN x)) _).mono ?_
    rintro r w3 ⟨rfl, hb3⟩
    have b03 := bV.trans (hb3.mono bV.size)
    have hVR3 := hVR.below hb3
    have gVR3 := gVR.below (by first | omega | (simp; omega)) hb3
    by_cases hw : wright (a, b, 3, d, ⟨#[]⟩, (zagN x)) = 0
    · rw [hw, errV_zero]
      have hr3 := Lib.hid (hr2.out.trans (show wend (a, b, 3, d, ⟨#[]⟩, (zagN x)) n = _ from if_neg (by simp [hw])))
      have hZ := hVR3.put (a' := a) (b' := b) (c' := 3) (d' := d) (e' := ⟨#[]⟩) (f' := (zagN x))
      obtain ⟨y0, y1, y2, y3, y4, y5⟩ := HV.below hb3
      obtain ⟨u0, u1, u2, u3, u4, u5⟩ := hVR3
      obtain ⟨j0, j1, j2, j3, j4, j5⟩ := gVR3
      clear hw
      go_wp2
      unfold put6 at hZ
      obtain ⟨z0, z1, z2, z3, z4, z5⟩ := hZ
      exact bodyPost_ret (v := .tuple #[.agg #[.int .i64 a, .int .i64 b, .int .i64 3, .string d, .string ⟨#[]⟩, .int .i64 (zagN x)], .int .i64 ((n : Nat) : Int), .nilIface]) (by simp [results, Tryz.results27, go_sem, z0, z1, z2, z3, z4, z5]) rfl ⟨by rw [hr3.out]; rfl, below_put6 b03 (by omega)⟩
    · rw [errV_of hw]
      have hr3 := Lib.hid (hr2.out.trans (show wend (a, b, 3, d, ⟨#[]⟩, (zagN x)) n = _ from if_pos hw))
      have HW := Lib.hid hw
      clear hw
      have hZ := hVR3.put (a' := 0) (b' := 0) (c' := 0) (d' := ⟨#[]⟩) (e' := ⟨#[]⟩) (f' := 0)
      obtain ⟨u0, u1, u2, u3, u4, u5⟩ := hVR3
      obtain ⟨j0, j1, j2, j3, j4, j5⟩ := gVR3
      go_wp2
      unfold put6 at hZ
      obtain ⟨z0, z1, z2, z3, z4, z5⟩ := hZ
      exact bodyPost_ret (v := .tuple #[.agg #[.int .i64 0, .int .i64 0, .int .i64 0, .string ⟨#[]⟩, .string ⟨#[]⟩, .int .i64 0], .int .i64 0, .iface 26 (.int .i64 (wright (a, b, 3, d, ⟨#[]⟩, (zagN x))))]) (by simp [results, Tryz.results27, go_sem, z0, z1, z2, z3, z4, z5]) rfl ⟨by rw [hr3.out]; unfold fillV; rw [errV_of HW.out]; rfl, below_put6 b03 (by omega)⟩
  · rw [errV_of hq]
    have hr2 := Lib.hid (hr.out.trans (if_pos hq))
    have HQ := Lib.hid hq
    clear hq
    have hZ := hVR.put (a' := 0) (b' := 0) (c' := 0) (d' := ⟨#[]⟩) (e' := ⟨#[]⟩) (f' := 0)
    obtain ⟨u0, u1, u2, u3, u4, u5⟩ := hVR
    obtain ⟨j0, j1, j2, j3, j4, j5⟩ := gVR
    go_wp2
    unfold put6 at hZ
    obtain ⟨z0, z1, z2, z3, z4, z5⟩ := hZ
    exact bodyPost_ret (v := .tuple #[.agg #[.int .i64 0, .int .i64 0, .int .i64 0, .string ⟨#[]⟩, .string ⟨#[]⟩, .int .i64 0], .int .i64 0, .iface 26 (.int .i64 q)]) (by simp [results, Tryz.results27, go_sem, z0, z1, z2, z3, z4, z5]) rfl ⟨by rw [hr2.out]; unfold fillV; rw [errV_of HQ.out]; rfl, below_put6 bV (by omega)⟩
set_option maxHeartbeats 2000000 in
set_option maxRecDepth 100000 in
theorem fill0 (a b c f : Int) (d e s : ByteArray) (w : World) (hg : Handle w) (h1 : c ≠ 1) (h3 : c ≠ 3) (h4 : c ≠ 4) :
    Calls Tryz.prog 27 #[wrV a b c d e f, .string s] w fun r w' => r = .returned (fillV (wfill (a, b, c, d, e, f) s)) ∧ Below w.heap.size w w' := by
  have hr2 := Lib.hid (show wfill (a, b, c, d, e, f) s = wend (a, b, c, d, ⟨#[]⟩, 0) 0 by unfold wfill; rw [if_neg h1, if_neg h3, if_neg h4])
  have e1 : (c == 1) = false := by simpa using h1
  have e3 : (c == 3) = false := by simpa using h3
  have e4 : (c == 4) = false := by simpa using h4
  clear h1 h3 h4
  have hW := WrAt.new w a b c d ⟨#[]⟩ 0
  have b0 := below1 w (wrO a b c d ⟨#[]⟩ 0)
  have hR := WrAt.new (w.alloc (wrO a b c d ⟨#[]⟩ 0)) 0 0 0 ⟨#[]⟩ ⟨#[]⟩ 0
  have b1 := below1 (w.alloc (wrO a b c d ⟨#[]⟩ 0)) (wrO 0 0 0 ⟨#[]⟩ ⟨#[]⟩ 0)
  have b01 := b0.trans (b1.mono b0.size)
  have gW := (Free6.new w a b c 0 d ⟨#[]⟩).below (by simp) b1
  have gR := Free6.new (w.alloc (wrO a b c d ⟨#[]⟩ 0)) 0 0 0 0 ⟨#[]⟩ ⟨#[]⟩
  rw [World.size_alloc] at gR
  replace hW := hW.below b1
  rw [World.size_alloc] at hR
  have hg1 := hg.below b01
  clear b0 b1
  go_enter Tryz.func27, Tryz.ntmps27
  go_wp2_with fail
  generalize hWW : (w.alloc (wrO a b c d ⟨#[]⟩ 0)).alloc (wrO 0 0 0 ⟨#[]⟩ ⟨#[]⟩ 0) = W at *
  have hlt : w.heap.size < W.heap.size := cell_lt hW.c0
  have hlt1 : w.heap.size + 1 < W.heap.size := cell_lt hR.c0
  clear hWW
  have hV := hW
  have hVR := hR
  have gVR := gR
  have bV := b01
  have HV := hV
  refine (wright_any (a, b, c, d, ⟨#[]⟩, 0) _).mono ?_
  rintro r w3 ⟨rfl, hb3⟩
  have b03 := bV.trans (hb3.mono bV.size)
  have hVR3 := hVR.below hb3
  have gVR3 := gVR.below (by first | omega | (simp; omega)) hb3
  by_cases hw : wright (a, b, c, d, ⟨#[]⟩, 0) = 0
  · rw [hw, errV_zero]
    have hr3 := Lib.hid (hr2.out.trans (show wend (a, b, c, d, ⟨#[]⟩, 0) 0 = _ from if_neg (by simp [hw])))
    have hZ := hVR3.put (a' := a) (b' := b) (c' := c) (d' := d) (e' := ⟨#[]⟩) (f' := 0)
    obtain ⟨y0, y1, y2, y3, y4, y5⟩ := HV.below hb3
    obtain ⟨u0, u1, u2, u3, u4, u5⟩ := hVR3
    obtain ⟨j0, j1, j2, j3, j4, j5⟩ := gVR3
    clear hw
    go_wp2
    unfold put6 at hZ
    obtain ⟨z0, z1, z2, z3, z4, z5⟩ := hZ
    exact bodyPost_ret (v := .tuple #[.agg #[.int .i64 a, .int .i64 b, .int .i64 c, .string d, .string ⟨#[]⟩, .int .i64 0], .int .i64 ((0 : Nat) : Int), .nilIface]) (by simp [results, Tryz.results27, go_sem, z0, z1, z2, z3, z4, z5]) rfl ⟨by rw [hr3.out]; rfl, below_put6 b03 (by omega)⟩
  · rw [errV_of hw]
    have hr3 := Lib.hid (hr2.out.trans (show wend (a, b, c, d, ⟨#[]⟩, 0) 0 = _ from if_pos hw))
    have HW := Lib.hid hw
    clear hw
    have hZ := hVR3.put (a' := 0) (b' := 0) (c' := 0) (d' := ⟨#[]⟩) (e' := ⟨#[]⟩) (f' := 0)
    obtain ⟨u0, u1, u2, u3, u4, u5⟩ := hVR3
    obtain ⟨j0, j1, j2, j3, j4, j5⟩ := gVR3
    go_wp2
    unfold put6 at hZ
    obtain ⟨z0, z1, z2, z3, z4, z5⟩ := hZ
    exact bodyPost_ret (v := .tuple #[.agg #[.int .i64 0, .int .i64 0, .int .i64 0, .string ⟨#[]⟩, .string ⟨#[]⟩, .int .i64 0], .int .i64 0, .iface 26 (.int .i64 (wright (a, b, c, d, ⟨#[]⟩, 0)))]) (by simp [results, Tryz.results27, go_sem, z0, z1, z2, z3, z4, z5]) rfl ⟨by rw [hr3.out]; unfold fillV; rw [errV_of HW.out]; rfl, below_put6 b03 (by omega)⟩
set_option maxHeartbeats 2000000 in
set_option maxRecDepth 100000 in
theorem fill4 (a b f : Int) (d e s : ByteArray) (w : World) (hs : s.size ≤ maxLen) (hg : Handle w) :
    Calls Tryz.prog 27 #[wrV a b 4 d e f, .string s] w fun r w' => r = .returned (fillV (wfill (a, b, 4, d, e, f) s)) ∧ Below w.heap.size w w' := by
  have hr := Lib.hid (show wfill (a, b, 4, d, e, f) s = if (vint s.data.toList 1000).2.2 ≠ 0 then (noWr, 0, (vint s.data.toList 1000).2.2)
    else if (unspan (s.extract (vint s.data.toList 1000).2.1 s.size)).2.2 ≠ 0 then (noWr, 0, (unspan (s.extract (vint s.data.toList 1000).2.1 s.size)).2.2)
    else wend (a, b, 4, d, (unspan (s.extract (vint s.data.toList 1000).2.1 s.size)).1, ((vint s.data.toList 1000).1 : Int)) ((vint s.data.toList 1000).2.1 + (unspan (s.extract (vint s.data.toList 1000).2.1 s.size)).2.1) from rfl)
  have hx : (vint s.data.toList 1000).2.1 ≤ 10 ∧ (vint s.data.toList 1000).2.1 ≤ s.size := by
    rcases vint_says s.data.toList 1000 with h | ⟨e, h, _⟩
    · exact ⟨h.2.2.2.2.1, by have := h.2.2.2.2.2; simpa using this⟩
    · rw [h]; exact ⟨Nat.zero_le _, Nat.zero_le _⟩
  have hW := WrAt.new w a b 4 d ⟨#[]⟩ 0
  have b0 := below1 w (wrO a b 4 d ⟨#[]⟩ 0)
  have hR := WrAt.new (w.alloc (wrO a b 4 d ⟨#[]⟩ 0)) 0 0 0 ⟨#[]⟩ ⟨#[]⟩ 0
  have b1 := below1 (w.alloc (wrO a b 4 d ⟨#[]⟩ 0)) (wrO 0 0 0 ⟨#[]⟩ ⟨#[]⟩ 0)
  have b01 := b0.trans (b1.mono b0.size)
  have gW := (Free6.new w a b 4 0 d ⟨#[]⟩).below (by simp) b1
  have gR := Free6.new (w.alloc (wrO a b 4 d ⟨#[]⟩ 0)) 0 0 0 0 ⟨#[]⟩ ⟨#[]⟩
  rw [World.size_alloc] at gR
  replace hW := hW.below b1
  rw [World.size_alloc] at hR
  have hg1 := hg.below b01
  clear b0 b1
  go_enter Tryz.func27, Tryz.ntmps27
  go_wp2_with fail
  generalize hWW : (w.alloc (wrO a b 4 d ⟨#[]⟩ 0)).alloc (wrO 0 0 0 ⟨#[]⟩ ⟨#[]⟩ 0) = W at *
  have hlt : w.heap.size < W.heap.size := cell_lt hW.c0
  have hlt1 : w.heap.size + 1 < W.heap.size := cell_lt hR.c0
  clear hWW
  refine (vint_any s 1000 _ hs (by omega)).mono ?_
  rintro r w2 ⟨rfl, rfl⟩
  generalize vint s.data.toList 1000 = y at *
  obtain ⟨x, n, q⟩ := y
  simp only at *
  obtain ⟨hn1, hn2⟩ := hx
  have x5 := hW.c5
  have g5 := gW.f5
  have hV := hW.num (x : Int)
  have hVR := hR.other (C := w.heap.size) (i := 5) (by omega) (.int .i64 (x : Int))
  have bV := b01.setCell (p := ⟨w.heap.size, 5, none⟩) (Nat.le_refl _) (.int .i64 (x : Int))
  have gVR := gR.set w.heap.size 5 (.int .i64 (x : Int))
  have gV := gW.set w.heap.size 5 (.int .i64 (x : Int))
  have bD : Below W.heap.size W (W.setCell ⟨w.heap.size, 5, none⟩ (.int .i64 (x : Int))) ∨ True := .inr trivial
  have sV : (W.setCell ⟨w.heap.size, 5, none⟩ (.int .i64 (x : Int))).heap.size = W.heap.size := by simp
  have hgV : Handle (W.setCell ⟨w.heap.size, 5, none⟩ (.int .i64 (x : Int))) := hg.below bV
  clear hW hR gW gR bD
  by_cases hq : q = 0
  · subst hq
    rw [errV_zero]
    have hr2' := Lib.hid (hr.out.trans (if_neg (by simp)))
    clear hr
    have hss : (s.extract n s.size).size ≤ maxLen := by simp; omega
    unfold maxLen at hs
    go_wp2_with fail
    refine (spanget_any (s.extract n s.size) _ hss hgV).mono ?_
    rintro r w2 ⟨rfl, hb2⟩
    have hk : (unspan (s.extract n s.size)).2.1 ≤ 2010 := by
      rcases unspan_says (s.extract n s.size) with h | ⟨e, h, _⟩
      · exact h.2.2.2.1
      · rw [h]; exact Nat.zero_le _
    have hW2 := hV.below hb2
    have hR2 := hVR.below hb2
    have gW2 := gV.below (by rw [sV]; exact hlt) hb2
    have gR2 := gVR.below (by rw [sV]; exact hlt1) hb2
    have b02 := bV.trans (hb2.mono bV.size)
    have hlt2 : w.heap.size < w2.heap.size := cell_lt hW2.c0
    have hlt12 : w.heap.size + 1 < w2.heap.size := cell_lt hR2.c0
    clear hV hVR gV gVR bV sV hgV hlt hlt1 x5 g5
    generalize unspan (s.extract n s.size) = y at *
    obtain ⟨t, k, q2⟩ := y
    simp only at *
    have x4 := hW2.c4
    have g4 := gW2.f4
    have hV := hW2.val t
    have hVR := hR2.other (C := w.heap.size) (i := 4) (by omega) (.string t)
    have bV := b02.setCell (p := ⟨w.heap.size, 4, none⟩) (Nat.le_refl _) (.string t)
    have gVR := gR2.set w.heap.size 4 (.string t)
    have sV : (w2.setCell ⟨w.heap.size, 4, none⟩ (.string t)).heap.size = w2.heap.size := by simp
    clear hW2 hR2 gW2 gR2
    by_cases hq : q2 = 0
    · subst hq
      rw [errV_zero]
      have hr2 := Lib.hid (hr2'.out.trans (if_neg (by simp)))
      have HV := hV
      obtain ⟨v0, v1, v2, v3, v4, v5⟩ := hV
      go_wp2_with fail
      refine (wright_any (a, b, 4, d, t, (x : Int)) _).mono ?_
      rintro r w3 ⟨rfl, hb3⟩
      have b03 := bV.trans (hb3.mono bV.size)
      have hVR3 := hVR.below hb3
      have gVR3 := gVR.below (by first | omega | (simp; omega)) hb3
      by_cases hw : wright (a, b, 4, d, t, (x : Int)) = 0
      · rw [hw, errV_zero]
        have hr3 := Lib.hid (hr2.out.trans (show wend (a, b, 4, d, t, (x : Int)) (n + k) = _ from if_neg (by simp [hw])))
        have hZ := hVR3.put (a' := a) (b' := b) (c' := 4) (d' := d) (e' := t) (f' := (x : Int))
        obtain ⟨y0, y1, y2, y3, y4, y5⟩ := HV.below hb3
        obtain ⟨u0, u1, u2, u3, u4, u5⟩ := hVR3
        obtain ⟨j0, j1, j2, j3, j4, j5⟩ := gVR3
        clear hw
        go_wp2
        unfold put6 at hZ
        obtain ⟨z0, z1, z2, z3, z4, z5⟩ := hZ
        exact bodyPost_ret (v := .tuple #[.agg #[.int .i64 a, .int .i64 b, .int .i64 4, .string d, .string t, .int .i64 (x : Int)], .int .i64 (((n + k) : Nat) : Int), .nilIface]) (by simp [results, Tryz.results27, go_sem, z0, z1, z2, z3, z4, z5]) rfl ⟨by rw [hr3.out]; rfl, below_put6 b03 (by omega)⟩
      · rw [errV_of hw]
        have hr3 := Lib.hid (hr2.out.trans (show wend (a, b, 4, d, t, (x : Int)) (n + k) = _ from if_pos hw))
        have HW := Lib.hid hw
        clear hw
        have hZ := hVR3.put (a' := 0) (b' := 0) (c' := 0) (d' := ⟨#[]⟩) (e' := ⟨#[]⟩) (f' := 0)
        obtain ⟨u0, u1, u2, u3, u4, u5⟩ := hVR3
        obtain ⟨j0, j1, j2, j3, j4, j5⟩ := gVR3
        go_wp2
        unfold put6 at hZ
        obtain ⟨z0, z1, z2, z3, z4, z5⟩ := hZ
        exact bodyPost_ret (v := .tuple #[.agg #[.int .i64 0, .int .i64 0, .int .i64 0, .string ⟨#[]⟩, .string ⟨#[]⟩, .int .i64 0], .int .i64 0, .iface 26 (.int .i64 (wright (a, b, 4, d, t, (x : Int))))]) (by simp [results, Tryz.results27, go_sem, z0, z1, z2, z3, z4, z5]) rfl ⟨by rw [hr3.out]; unfold fillV; rw [errV_of HW.out]; rfl, below_put6 b03 (by omega)⟩
    · rw [errV_of hq]
      have hr2 := Lib.hid (hr2'.out.trans (if_pos hq))
      have HQ := Lib.hid hq
      clear hq
      have hZ := hVR.put (a' := 0) (b' := 0) (c' := 0) (d' := ⟨#[]⟩) (e' := ⟨#[]⟩) (f' := 0)
      obtain ⟨u0, u1, u2, u3, u4, u5⟩ := hVR
      obtain ⟨j0, j1, j2, j3, j4, j5⟩ := gVR
      go_wp2
      unfold put6 at hZ
      obtain ⟨z0, z1, z2, z3, z4, z5⟩ := hZ
      exact bodyPost_ret (v := .tuple #[.agg #[.int .i64 0, .int .i64 0, .int .i64 0, .string ⟨#[]⟩, .string ⟨#[]⟩, .int .i64 0], .int .i64 0, .iface 26 (.int .i64 q2)]) (by simp [results, Tryz.results27, go_sem, z0, z1, z2, z3, z4, z5]) rfl ⟨by rw [hr2.out]; unfold fillV; rw [errV_of HQ.out]; rfl, below_put6 bV (by omega)⟩
  · rw [errV_of hq]
    have hr2 := Lib.hid (hr.out.trans (if_pos hq))
    have HQ := Lib.hid hq
    clear hq
    have hZ := hVR.put (a' := 0) (b' := 0) (c' := 0) (d' := ⟨#[]⟩) (e' := ⟨#[]⟩) (f' := 0)
    obtain ⟨u0, u1, u2, u3, u4, u5⟩ := hVR
    obtain ⟨j0, j1, j2, j3, j4, j5⟩ := gVR
    go_wp2
    unfold put6 at hZ
    obtain ⟨z0, z1, z2, z3, z4, z5⟩ := hZ
    exact bodyPost_ret (v := .tuple #[.agg #[.int .i64 0, .int .i64 0, .int .i64 0, .string ⟨#[]⟩, .string ⟨#[]⟩, .int .i64 0], .int .i64 0, .iface 26 (.int .i64 q)]) (by simp [results, Tryz.results27, go_sem, z0, z1, z2, z3, z4, z5]) rfl ⟨by rw [hr2.out]; unfold fillV; rw [errV_of HQ.out]; rfl, below_put6 bV (by omega)⟩
theorem fill_any (x : Wr) (s : ByteArray) (w : World) (hs : s.size ≤ maxLen) (hg : Handle w) :
    Calls Tryz.prog 27 #[wrV x.1 x.2.1 x.2.2.1 x.2.2.2.1 x.2.2.2.2.1 x.2.2.2.2.2, .string s] w fun r w' => r = .returned (fillV (wfill x s)) ∧ Below w.heap.size w w' := by
  obtain ⟨a, b, c, d, e, f⟩ := x
  by_cases h1 : c = 1
  · subst h1; exact fill1 a b f d e s w hs hg
  · by_cases h3 : c = 3
    · subst h3; exact fill3 a b f d e s w hs hg
    · by_cases h4 : c = 4
      · subst h4; exact fill4 a b f d e s w hs hg
      · exact fill0 a b c f d e s w hg h1 h3 h4
end Go.Proofs.YtnaclpfcldoebaaGreatDoor
end

section
namespace Go.Proofs.YtnaclpfcldoebaaGreatDoor
open Go.RowKit Go.Maps
theorem wpList_lookup_own_bool {P : Program} (w : World) {ops : Array Oper} {rest : List Oper} {o : Oper} {a : Act} {Q : Exit → Act → World → Prop}
    (hg : o.guard = none) (m x : Operand) (t : TypeId) (hop : o.op = Op.lookup t m x false)
    (k e : TypeId) (K : Keyed P k) (ht : P.underlying t = some (.map k e)) (he : P.underlying e = some .bool) (hz : (zeroValue e).run P w = .ok (.bool false) w) (b n : Nat) (D : DataW Unit)
    (hm : a.eval m = .map (some b)) (hown : w.ownsMap P k (plainElem P e) b n D) (key : Value) (kl : Lit) (hx : a.eval x = key) (hkey : keyOf P k key = some kl)
    (c : Bool) (hat : D.atKey kl (.lit (.bool false)) = .lit (.bool c)) (hK : wpList P ops Q rest (a.put o.dst (.bool c)) w) :
    wpList P ops Q (o :: rest) a w := by
  refine wpList_plain hg fun K' hK' => ?_
  obtain ⟨v, ps, hrun, hv⟩ := hown.lookup K ht hz (plainElem_bool he false) hkey
  rw [hat] at hv
  have hvc : v = .bool c := by
    unfold plainElem at hv
    rw [he] at hv
    cases v <;> simp at hv
    rw [hv.1]
  subst hvc
  unfold Oper.wp
  simp [execOp, hop, hm, hx, hrun, Result.andThen]
  exact hK' _ _ hK
theorem lit_str_ne {s t : ByteArray} (h : ¬ s = t) : Lit.string s.data.toList ≠ Lit.string t.data.toList := by
  intro e
  apply h
  injection e with e
  obtain ⟨⟨a⟩⟩ := s
  obtain ⟨⟨b⟩⟩ := t
  simp at e
  rw [e]
/-- The map says yes to these keys alone. -/
def SaysOf (D : DataW Unit) (T : List ByteArray) : Prop := ∀ s : ByteArray, D.atKey (.string s.data.toList) (.lit (.bool false)) = .lit (.bool (decide (s ∈ T)))
theorem SaysOf.nil : SaysOf (.map []) [] := fun _ => rfl
theorem SaysOf.put {D : DataW Unit} {T : List ByteArray} {s : ByteArray} (h : SaysOf D T) (hD : IsMap D) : SaysOf (D.put (.string s.data.toList) (.lit (.bool true))) (T ++ [s]) := by
  intro x
  by_cases hx : x = s
  · subst hx
    rw [atKey_put_same hD (by simp [WideAt.IsKeyLit])]
    simp
  · rw [atKey_put_other (lit_str_ne hx), h x]
    simp [hx]
/-- The map holds the numbers below m, each once. -/
def Upto (D : DataW Unit) (m : Nat) : Prop := Maps.size D = m ∧ (∀ n : Int, Maps.has D (.int .i64 n) = decide (0 ≤ n ∧ n < (m : Int))) ∧ Maps.Tidy D
theorem Upto.nil : Upto (.map []) 0 := ⟨rfl, fun n => (show false = decide (0 ≤ n ∧ n < ((0 : Nat) : Int)) from (decide_eq_false (by omega)).symm), ⟨[], rfl, by simp⟩⟩
theorem Upto.old {D : DataW Unit} {m : Nat} {n : Int} (h : Upto D m) (h0 : 0 ≤ n) (h1 : n < (m : Int)) : Upto (D.put (.int .i64 n) (.lit (.bool true))) m := by
  obtain ⟨a, b, c⟩ := h
  refine ⟨?_, fun x => ?_, c.put (by simp [WideAt.IsKeyLit]) _⟩
  · rw [size_put c, b n, decide_eq_true ⟨h0, h1⟩, if_pos rfl, a]
  · by_cases hx : x = n
    · subst hx
      rw [has_put_same c.isMap (by simp [WideAt.IsKeyLit]), decide_eq_true ⟨h0, h1⟩]
    · rw [has_put_other (by intro e; injection e with _ e; exact hx e), b x]
theorem Upto.new {D : DataW Unit} {m : Nat} (h : Upto D m) : Upto (D.put (.int .i64 (m : Int)) (.lit (.bool true))) (m + 1) := by
  obtain ⟨a, b, c⟩ := h
  refine ⟨?_, fun x => ?_, c.put (by simp [WideAt.IsKeyLit]) _⟩
  · rw [size_put c, b (m : Int), decide_eq_false (by omega), if_neg (by simp), a]
  · by_cases hx : x = (m : Int)
    · subst hx
      rw [has_put_same c.isMap (by simp [WideAt.IsKeyLit]), decide_eq_true (by omega)]
    · rw [has_put_other (by intro e; injection e with _ e; exact hx e), b x, decide_eq_decide]
      omega
end Go.Proofs.YtnaclpfcldoebaaGreatDoor
end

section
namespace Go.Proofs.YtnaclpfcldoebaaGreatDoor
/-- So many more from byte p on, i texts being done: they, how far, what is wrong, where. -/
def spansGo (s : ByteArray) : Nat → Nat → Nat → List ByteArray → List ByteArray × Nat × Int × Int
  | 0, _, p, acc => (acc, p, 0, -1)
  | r + 1, i, p, acc => if (unspan (s.extract p s.size)).2.2 ≠ 0 then ([], 0, (unspan (s.extract p s.size)).2.2, (i : Int)) else spansGo s r (i + 1) (p + (unspan (s.extract p s.size)).2.1) (acc ++ [(unspan (s.extract p s.size)).1])
def spansOf (s : ByteArray) (n : Nat) : List ByteArray × Nat × Int × Int := spansGo s n 0 0 []
theorem spans_bad {s : ByteArray} {r i p : Nat} {acc : List ByteArray} {X : List ByteArray × Nat × Int × Int} (h : X = spansGo s (r + 1) i p acc) (he : (unspan (s.extract p s.size)).2.2 ≠ 0) : X = ([], 0, (unspan (s.extract p s.size)).2.2, (i : Int)) := by
  rw [h]; simp only [spansGo]; rw [if_pos he]
theorem spans_next {s : ByteArray} {r i p : Nat} {acc : List ByteArray} {X : List ByteArray × Nat × Int × Int} (h : X = spansGo s (r + 1) i p acc) (he : (unspan (s.extract p s.size)).2.2 = 0) : X = spansGo s r (i + 1) (p + (unspan (s.extract p s.size)).2.1) (acc ++ [(unspan (s.extract p s.size)).1]) := by
  rw [h]; simp only [spansGo]; rw [if_neg (by omega)]
theorem spansGo_len (s : ByteArray) : ∀ (r i p : Nat) (acc : List ByteArray), (spansGo s r i p acc).1.length ≤ acc.length + r := by
  intro r
  induction r with
  | zero => intro i p acc; simp [spansGo]
  | succ r ih =>
    intro i p acc
    simp only [spansGo]
    split
    · simp
    · refine Nat.le_trans (ih _ _ _) ?_
      simp only [List.length_append, List.length_cons, List.length_nil]; omega
theorem spans_len (s : ByteArray) (n : Nat) : (spansOf s n).1.length ≤ n := by have := spansGo_len s n 0 0 []; simpa [spansOf] using this
theorem extract_rest (s : ByteArray) (p : Nat) (h : p ≤ s.size) : (s.extract p s.size).size = s.size - p := by rw [ByteArray.size_extract]; omega
theorem extract_twice (s : ByteArray) (p k n : Nat) (h : p ≤ s.size) (hn : n = s.size - p) : (s.extract p s.size).extract k n = s.extract (p + k) s.size := by
  subst hn
  rw [ByteArray.extract_extract]
  congr 1
  omega
theorem extract_all (s : ByteArray) : s.extract 0 s.size = s := by simp
end Go.Proofs.YtnaclpfcldoebaaGreatDoor
end
