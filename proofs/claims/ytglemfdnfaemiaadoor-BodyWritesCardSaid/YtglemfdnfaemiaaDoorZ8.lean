/- What a right batch gives its writer, and its writes as bytes, one by one. Plain Lean.

A buffer of bytes in a block of the call's own. Any program.

A slice of bytes of the call's own, that grows: its cells, and the string that it turns into. Any program.

vary.Put makes what vput says.

vary.Get and Unvary of the reference say what vget says. -/
import Derived.Test.YtglemfdnfaemiaaDoorZ7
import Derived.Test.YtglemfdnfaemiaaDoorZ1
import Derived.Laws.IdiomStrings
import Derived.Laws.BytesArg
import Derived.OwnWalk
import Derived.Maps.AppendAt
import Derived.KernelRfl
import Derived.Laws.OwnMore
import Derived.Test.YtglemfdnfaemiaaDoorZ4
import Derived.WalkKit
import Derived.WalkLawsBesides
import Derived.WalkSpells
import Derived.Outline
import Derived.Lib.Hide
import Derived.Laws.BitsAllLaws
section
namespace Go.Proofs.YtglemfdnfaemiaaDoor
/-- The time of the write ahead. -/
def prevT (l : List Wr) (k : Nat) : Int := (lastId l k).1
theorem bgo_at {f h : List Ent} {l : List Wr} : ∀ (last : Id) (i : Nat), (bgo f h l last i).1 = 0 → ∀ (k : Nat) w, l[k]? = some w → wright w = 0 ∧ idWithin (wid w) f h = true ∧ (0 < i + k → idCmp (if k = 0 then last else lastId l k) (wid w) < 0) := by
  induction l with
  | nil => intro _ _ _ k w hw; simp at hw
  | cons x l ih =>
    intro last i
    simp only [bgo]
    split
    · rename_i h1; intro h2; exact absurd h2 h1
    · rename_i h1
      split
      · intro h; simp at h
      · rename_i h2
        split
        · intro h; simp at h
        · rename_i h3
          intro h4 k w hw
          cases k with
          | zero =>
            simp at hw
            subst hw
            refine ⟨by omega, by simpa using h3, fun hi => ?_⟩
            rw [if_pos rfl]
            rw [Nat.add_zero] at hi
            have : ¬ 0 ≤ idCmp last (wid x) := fun hc => h2 ⟨hi, hc⟩
            omega
          | succ k =>
            simp at hw
            obtain ⟨a, b, c⟩ := ih _ _ h4 k w hw
            refine ⟨a, b, fun _ => ?_⟩
            have c' := c (by omega)
            rw [if_neg (by omega)]
            by_cases hk : k = 0
            · subst hk
              rw [if_pos rfl] at c'
              rw [lastId_succ (l := x :: l) (w := x) rfl]
              exact c'
            · rw [if_neg hk] at c'
              have : lastId (x :: l) (k + 1) = lastId l k := by
                unfold lastId
                rw [if_neg (by omega), if_neg hk]
                congr 1
                rw [show k + 1 - 1 = (k - 1) + 1 by omega]
                simp [List.getD]
              rw [this]; exact c'
theorem cmp_le {a b : Id} (h : idCmp a b < 0) : a.1 ≤ b.1 := by
  unfold idCmp at h
  split at h
  · omega
  · split at h <;> omega
theorem vof_mem {l : List Ent} {x : Int} (h : vof l x ≠ 0) : ∃ t, (x, t) ∈ l := by
  induction l with
  | nil => exact absurd rfl h
  | cons y l ih =>
    obtain ⟨r, t⟩ := y
    simp only [vof] at h
    by_cases hr : r = x
    · subst hr; exact ⟨t, by simp⟩
    · rw [if_neg hr] at h
      obtain ⟨t', ht⟩ := ih h
      exact ⟨t', List.mem_cons_of_mem _ ht⟩
theorem wright_id {w : Wr} (h : wright w = 0) : 1 ≤ w.1 ∧ w.1 ≤ 1099511627776 ∧ 0 ≤ w.2.1 ∧ w.2.1 ≤ 200 ∧ 1 ≤ w.2.2.1 ∧ w.2.2.1 ≤ 4 ∧ w.2.2.2.1.size ≤ 40 ∧ w.2.2.2.2.1.size ≤ 300 := by
  unfold wright at h
  split at h
  · omega
  · split at h
    · omega
    · rename_i h2
      split at h
      · omega
      · have h3 : idRight (w.1, w.2.1) = true := by simpa using h2
        unfold idRight at h3
        have := of_decide_eq_true h3
        simp only at this
        omega
theorem body_at {f h : List Ent} {l : List Wr} (e : (bright f h l).1 = 0) {k : Nat} {w : Wr} (hx : l[k]? = some w) : wright w = 0 ∧ (∃ t, (w.2.1, t) ∈ h) ∧ 0 ≤ prevT l k ∧ prevT l k ≤ w.1 := by
  have hb : (bgo f h l (0, 0) 0).1 = 0 := by
    unfold bright at e
    split at e
    · rename_i h1; exact absurd e h1
    · split at e
      · rename_i h2; exact absurd e h2
      · split at e
        · simp at e
        · split at e
          · simp at e
          · exact e
  obtain ⟨a, b, c⟩ := bgo_at _ _ hb k w hx
  have hid := wright_id a
  refine ⟨a, ?_, ?_⟩
  · apply vof_mem
    unfold idWithin at b
    simp at b
    omega
  · unfold prevT
    by_cases hk : k = 0
    · subst hk
      refine ⟨by simp [lastId], by simp [lastId]; omega⟩
    · have c' := cmp_le (c (by omega))
      rw [if_neg hk] at c'
      obtain ⟨kk, rfl⟩ : ∃ kk, k = kk + 1 := ⟨k - 1, by omega⟩
      have hlt : kk < l.length := by have := (List.getElem?_eq_some_iff.1 hx).1; omega
      have h0 := (bgo_at _ _ hb kk _ (List.getElem?_eq_getElem hlt)).1
      rw [lastId_succ (List.getElem?_eq_getElem hlt)] at c' ⊢
      have := (wright_id h0).1
      exact ⟨by simp only; omega, c'⟩
/-- One write's bytes. -/
def wstep (h : List Ent) (at_ : List Int) (w : Wr) (i : Nat) (time : Int) : List UInt8 :=
  [UInt8.ofNat w.2.2.1.toNat] ++ vput (w.1 - time).toNat ++ vput (placeOf h w.2.1) ++ vput (at_.getD i 0).toNat ++ (wtailOf w).data.toList
theorem ws_snoc (h : List Ent) (at_ : List Int) (w : Wr) (l : List Wr) : ∀ (i : Nat) (time : Int), wsbytes h at_ (l ++ [w]) i time = wsbytes h at_ l i time ++ wstep h at_ w (i + l.length) (if l = [] then time else (l.getLast?.getD noWr).1) := by
  induction l with
  | nil => intro i time; simp [wsbytes, wstep]
  | cons x l ih =>
    intro i time
    simp only [List.cons_append, wsbytes]
    rw [ih]
    simp only [List.append_assoc, List.length_cons]
    rw [show i + 1 + l.length = i + (l.length + 1) by omega]
    congr 6
    by_cases hl : l = []
    · subst hl; simp
    · rw [if_neg hl, if_neg (by simp)]
      rw [List.getLast?_cons]
      cases hq : l.getLast? with
      | none => exact absurd (List.getLast?_eq_none_iff.1 hq) hl
      | some q => simp
theorem ws_take {h : List Ent} {at_ : List Int} {l : List Wr} {k : Nat} {w : Wr} (hx : l[k]? = some w) : wsbytes h at_ (l.take (k + 1)) 0 0 = wsbytes h at_ (l.take k) 0 0 ++ wstep h at_ w k (prevT l k) := by
  obtain ⟨hk, e⟩ := List.getElem?_eq_some_iff.1 hx
  rw [List.take_succ_eq_append_getElem hk, e, ws_snoc]
  congr 2
  · rw [List.length_take]; omega
  · unfold prevT lastId
    by_cases h0 : k = 0
    · subst h0; simp
    · rw [if_neg h0]
      have hne : l.take k ≠ [] := by
        intro e0
        have := congrArg List.length e0
        rw [List.length_take, List.length_nil] at this
        omega
      rw [if_neg hne]
      have : (l.take k).getLast? = l[k - 1]? := by
        rw [List.getLast?_eq_getElem?, List.length_take, Nat.min_eq_left (by omega), List.getElem?_take_of_lt (by omega)]
      rw [this]
      simp [List.getD]
/-- The keys' numbers. -/
theorem tab_idx (l : List ByteArray) : ∀ z ∈ (Keys.tab l).2, 0 ≤ z ∧ z ≤ (l.length : Int) := by
  suffices H : ∀ r : List ByteArray, ∀ z ∈ (Keys.tab r.reverse).2, 0 ≤ z ∧ z ≤ (r.length : Int) by
    have := H l.reverse
    simpa using this
  intro r
  induction r with
  | nil => intro z hz; simp [Keys.tab] at hz
  | cons x r ih =>
    have hl := (Keys.tab_len r.reverse).1
    rw [List.length_reverse] at hl
    rw [List.reverse_cons, Keys.tab_snoc]
    by_cases hs : x ∈ (Keys.tab r.reverse).1
    · rw [Keys.step_in hs]
      intro z hz
      rcases List.mem_append.1 hz with hz | hz
      · have := ih z hz; simp only [List.length_cons]; omega
      · simp at hz
        subst hz
        have := List.idxOf_lt_length_of_mem hs
        simp only [List.length_cons]; omega
    · rw [Keys.step_out hs]
      intro z hz
      rcases List.mem_append.1 hz with hz | hz
      · have := ih z hz; simp only [List.length_cons]; omega
      · simp at hz
        subst hz
        simp only [List.length_cons]; omega
theorem place_lt {l : List Ent} {x t : Int} (h : (x, t) ∈ l) : placeOf l x < l.length := by
  induction l with
  | nil => simp at h
  | cons y l ih =>
    obtain ⟨r, t'⟩ := y
    simp only [placeOf, List.length_cons]
    by_cases hr : r = x
    · rw [if_pos hr]; omega
    · rw [if_neg hr]
      rcases List.mem_cons.1 h with h | h
      · injection h with h1 _; exact absurd h1.symm hr
      · have := ih h; omega
theorem zig_lt {n : Int} (h : -1125899906842624 ≤ n) (h2 : n ≤ 1125899906842624) : zigN n < 18446744073709551616 := by unfold zigN; split <;> omega
theorem wright_n {w : Wr} (h : wright w = 0) : -1125899906842624 ≤ w.2.2.2.2.2 ∧ w.2.2.2.2.2 ≤ 1125899906842624 := by
  unfold wright at h
  split at h
  · omega
  · split at h
    · omega
    · split at h
      · omega
      · split at h
        · omega
        · split at h
          · omega
          · omega
theorem tail_len {w : Wr} (h : wright w = 0) : (wtailOf w).size ≤ 320 := by
  have h1 := (wright_id h).2.2.2.2.2.2.2
  have h2 := wright_n h
  have l1 := vput_len10 (n := w.2.2.2.2.1.size) (by omega)
  have l2 := vput_len10 (n := zigN w.2.2.2.2.2) (zig_lt h2.1 h2.2)
  have l3 := vput_len10 (n := w.2.2.2.2.2.toNat) (by omega)
  have e : ∀ l : List UInt8, (strOf l).size = l.length := fun l => by show l.toArray.size = _; simp
  unfold wtailOf
  split
  · rw [ByteArray.size_append, e]; omega
  · split
    · rw [e]; omega
    · split
      · rw [ByteArray.size_append, ByteArray.size_append, e, e]; omega
      · rw [e]; simp
theorem wstep_len {h : List Ent} {at_ : List Int} {w : Wr} {i : Nat} {tm : Int} (hw : wright w = 0) (h0 : 0 ≤ tm) (h1 : placeOf h w.2.1 ≤ 1000) (h2 : (at_.getD i 0).toNat ≤ 1000) : (wstep h at_ w i tm).length ≤ 400 := by
  have hid := wright_id hw
  have ht := tail_len hw
  have l1 := vput_len10 (n := (w.1 - tm).toNat) (by omega)
  have l2 := vput_len10 (n := placeOf h w.2.1) (by omega)
  have l3 := vput_len10 (n := (at_.getD i 0).toNat) (by omega)
  have e : (wtailOf w).data.toList.length = (wtailOf w).size := by simp
  unfold wstep
  simp only [List.length_append, List.length_singleton]
  omega
end Go.Proofs.YtglemfdnfaemiaaDoor
end

section
namespace Go.Proofs.YtglemfdnfaemiaaDoor
open Go.RowKit
/-- Block g begins with the bytes l, none of them frozen. -/
def BytesAt (w : World) (g : Nat) (l : List UInt8) : Prop := ∀ i, i < l.length → w.cell? ⟨g, i, none⟩ = some (.int .u8 (l.getD i 0).toNat) ∧ w.frozen? ⟨g, i, none⟩ = false
theorem getD_at {α : Type} (l : List α) (d : α) (i : Nat) (h : i < l.length) : l.getD i d = l[i] := by simp [List.getD, List.getElem?_eq_getElem h]
theorem BytesAt.set {w : World} {g : Nat} {l : List UInt8} (h : BytesAt w g l) (k : Nat) (b : UInt8) (hk : k < l.length) : BytesAt (w.setCell ⟨g, k, none⟩ (.int .u8 b.toNat)) g (l.set k b) := by
  intro i hi
  rw [List.length_set] at hi
  refine ⟨?_, by rw [World.frozen?_setCell]; exact (h i hi).2⟩
  by_cases e : i = k
  · subst e
    rw [World.cell?_setCell_same _ _ _ (h i hi).1]
    rw [getD_at _ _ _ (by simpa using hi)]
    simp
  · rw [World.cell?_setCell_other _ _ _ _ (by intro h'; injection h' with _ h''; exact e h''.symm)]
    rw [(h i hi).1, getD_at l _ _ hi, getD_at (l.set k b) _ _ (by simpa using hi), List.getElem_set_ne (Ne.symm e)]
theorem BytesAt.set_nat {w : World} {g : Nat} {l : List UInt8} (h : BytesAt w g l) (k n : Nat) (hn : n < 256) (hk : k < l.length) : BytesAt (w.setCell ⟨g, k, none⟩ (.int .u8 (n : Int))) g (l.set k (UInt8.ofNat n)) := by
  have e := h.set k (UInt8.ofNat n) hk
  have e2 : ((UInt8.ofNat n).toNat : Int) = (n : Int) := by simp; omega
  rw [e2] at e
  exact e
theorem BytesAt.keep {w w' : World} {g B : Nat} {l : List UInt8} (h : BytesAt w g l) (hb : Below B w w') (hg : g < B) : BytesAt w' g l :=
  fun i hi => ⟨(hb.cell (p := ⟨g, i, none⟩) hg).trans (h i hi).1, (hb.frozen (p := ⟨g, i, none⟩) hg).trans (h i hi).2⟩
theorem BytesAt.drew {w : World} {g : Nat} {l : List UInt8} (h : BytesAt w g l) : BytesAt w.drew g l := h
theorem BytesAt.lt {w : World} {g : Nat} {l : List UInt8} (h : BytesAt w g l) (hl : 0 < l.length) : g < w.heap.size := cell_lt (h 0 hl).1
theorem bytes_of {P : Program} (w : World) (src dst e : TypeId) (s : ByteArray) (hs : P.underlying src = some .string) (hd : P.underlying dst = some (.slice e)) (he : P.underlying e = some (.int .u8)) :
    ∃ C W, (convert src dst (.string s)).run P w = .ok (.slice (some ⟨w.heap.size, 0, none⟩) s.size C) W ∧ BytesAt W w.heap.size s.data.toList ∧ Below w.heap.size w W := by
  refine ⟨_, _, run_bytes_of_string w src dst e s hs hd he, ?_, ?_⟩
  · intro i hi
    have hi' : i < s.size := by simpa using hi
    have hc : (bytesRow s (grownCap w s.size 0 e))[i]? = some (.int .u8 (s.data.toList.getD i 0).toNat) := by
      unfold bytesRow
      rw [Array.getElem?_append_left (by simpa using hi'), getD_at _ _ _ hi]
      simp only [Array.getElem?_map]
      rw [Array.getElem?_eq_getElem (by simpa using hi')]
      simp
    have hz : i < (bytesRow s (grownCap w s.size 0 e)).size := (Array.getElem?_eq_some_iff.1 hc).1
    generalize bytesRow s (grownCap w s.size 0 e) = R at hc hz
    constructor
    · show World.cell? (World.alloc w.drew _) _ = _
      have : (w.drew.alloc (.cells R e (R.size, R.size + 1))).cell? ⟨w.drew.heap.size, i, none⟩ = R[i]? := by
        show (match (w.drew.heap.push (Obj.cells R e (R.size, R.size + 1)))[w.drew.heap.size]? with
          | some (Obj.cells c elem frozen) => c[i]?
          | _ => none) = R[i]?
        rw [Array.getElem?_push_size]
      rw [← hc]
      exact this
    · have : (w.drew.alloc (.cells R e (R.size, R.size + 1))).frozen? ⟨w.drew.heap.size, i, none⟩ = false := by
        simp only [World.alloc, World.frozen?, Array.getElem?_push_size]
        simp
        omega
      exact this
  · exact ((Below.refl _ w).drew).alloc (Nat.le_refl _) _
theorem string_of {P : Program} (w : World) (src e dst : TypeId) (g c : Nat) (l : List UInt8) (hs : P.underlying src = some (.slice e)) (he : P.underlying e = some (.int .u8)) (hd : P.underlying dst = some .string) (h : BytesAt w g l) :
    (convert src dst (.slice (some ⟨g, 0, none⟩) l.length c)).run P w = .ok (.string ⟨l.toArray⟩) w := by
  rw [run_convert_bytes_arg w src e hs he g 0 l.length c (l.map fun b => (b.toNat : Int)) (by simp) (fun i hi => by
    rw [Nat.zero_add, (h i hi).1, getD_at _ _ _ hi]
    simp [List.getD, List.getElem?_eq_getElem hi]) dst hd]
  congr 2
  simp only [strOfNums, List.map_map]
  congr 1
  have e : ((fun n : Int => UInt8.ofNat n.toNat) ∘ fun b : UInt8 => (b.toNat : Int)) = id := by
    funext b
    simp
  rw [e, List.map_id]
end Go.Proofs.YtglemfdnfaemiaaDoor
end

section
namespace Go.Proofs.YtglemfdnfaemiaaDoor
open Go.RowKit
abbrev byteV (b : UInt8) : Value := .int .u8 (b.toNat : Int)
abbrev bytesV (l : List UInt8) : List Value := l.map byteV
theorem byteV_of {n : Int} {b : UInt8} (h : n = (b.toNat : Int)) : Value.int .u8 n = byteV b := by rw [h]
theorem string_own {P : Program} {w : World} {base : Nat} {E : TypeId} {A : Option Addr} {n c : Nat} {l : List UInt8} (src e dst : TypeId) (hs : P.underlying src = some (.slice e)) (he : P.underlying e = some (.int .u8)) (hd : P.underlying dst = some .string)
    (h : w.ownsRow base E 1 (.slice A n c) n (bytesV l)) (hl : l.length = n) (hn : 0 < n) : (convert src dst (.slice A n c)).run P w = .ok (.string ⟨l.toArray⟩) w := by
  rcases h.2 with ⟨_, h0⟩ | ⟨g, cap, cur, hv, _, hh, _⟩
  · omega
  · have hA : A = some ⟨g, 0, none⟩ := by injection hv
    subst hA
    subst hl
    refine string_of w src e dst g c l hs he hd fun i hi => ⟨?_, h.frozenAt i⟩
    rw [h.cellAt i (by omega), List.getElem?_map, List.getElem?_eq_getElem hi, getD_at l 0 i hi]
    rfl
end Go.Proofs.YtglemfdnfaemiaaDoor
end

section
namespace Go.Proofs.YtglemfdnfaemiaaDoor
open Go.RowKit
theorem byteInfo : (Tryd.prog.info? 5).map (fun i => (i.zero, i.size, i.bytes)) = some (some (.int .u8 0), 1, 1) := by kernel_rfl
theorem cells_new1 (w : World) (v : Value) (t : TypeId) : ∀ j u, ([v] : List Value)[j]? = some u → (w.alloc (.cells #[v] t)).cell? ((⟨w.heap.size, 0, none⟩ : Addr).add j) = some u := by
  intro j u hu
  have hadd : (⟨w.heap.size, 0, none⟩ : Addr).add j = ⟨w.heap.size, j, none⟩ := by unfold Addr.add; split <;> simp_all
  rw [hadd, World.cell?_alloc_new]
  simpa using hu
/-- The lowest seven bits, and one more. -/
theorem low7 (n : Nat) : bits BinOp.or IntKind.u8 (IntKind.u8.wrap (n : Int)) 128 = ((UInt8.ofNat (n % 128 + 128)).toNat : Int) := by
  rw [IntKind.wrap_u8']
  have e1 : (n : Int) % 256 = ((n % 256 : Nat) : Int) := by omega
  rw [e1]
  have e := u8_or_nat (n % 256) 128 (by omega) (by omega)
  have e2 : ((128 : Nat) : Int) = 128 := rfl
  rw [e2] at e
  rw [e]
  have e3 : (UInt8.ofNat (n % 128 + 128)).toNat = n % 128 + 128 := by simp; omega
  rw [e3]
  have e4 : n % 256 ||| 128 = n % 128 + 128 := by
    have hs : n % 256 = n % 128 + 128 * (n / 128 % 2) := by omega
    rcases Nat.mod_two_eq_zero_or_one (n / 128) with h0 | h0
    · rw [h0] at hs
      rw [hs, Nat.mul_zero, Nat.add_zero, Nat.or_comm, nat_join 7 128 (n % 128) (by decide) (by omega), Nat.add_comm]
    · rw [h0] at hs
      rw [hs, Nat.mul_one, Nat.add_comm, ← nat_join 7 128 (n % 128) (by decide) (by omega), Nat.or_assoc, Nat.or_comm (n % 128) 128, ← Nat.or_assoc, Nat.or_self, nat_join 7 128 (n % 128) (by decide) (by omega)]
  rw [e4]
theorem low8 (n : Nat) (h : n < 128) : IntKind.u8.wrap (n : Int) = ((UInt8.ofNat n).toNat : Int) := by
  rw [IntKind.wrap_u8']
  have : (UInt8.ofNat n).toNat = n := by simp; omega
  rw [this]; omega
theorem shr7 (n : Nat) : (n : Int) / 128 = ((n / 128 : Nat) : Int) := by omega
theorem own_snoc {w : World} {base : Nat} {E : TypeId} {v : Value} {l : List UInt8} {b : UInt8} (h : w.ownsRow base E 1 v (l.length + 1) (bytesV l ++ [byteV b])) : w.ownsRow base E 1 v (l ++ [b]).length (bytesV (l ++ [b])) := by
  simpa [bytesV] using h
theorem own_snoc' {w : World} {base : Nat} {E : TypeId} {v : Value} {l : List UInt8} {b : UInt8} (h : w.ownsRow base E 1 v (l.length + 1) (bytesV l ++ [byteV b])) : w.ownsRow base E 1 v (l.length + 1) (bytesV (l ++ [b])) := by
  simpa [bytesV] using h
theorem vput_next {n m : Nat} {l : List UInt8} (h : vput n = l ++ vput m) (hm : ¬ m < 128) : vput n = (l ++ [UInt8.ofNat (m % 128 + 128)]) ++ vput (m / 128) := by rw [h, vput_big hm]; simp
set_option maxHeartbeats 1000000 in
set_option maxRecDepth 100000 in
theorem vput_any (n : Nat) (w : World) (hn : n < 18446744073709551616) :
    Calls Tryd.prog 44 #[.int .u64 (n : Int)] w fun e w' => e = .returned (.string ⟨(vput n).toArray⟩) ∧ Below w.heap.size w w' := by
  obtain ⟨i0, hi, hz0, hz1, hz2⟩ := info_parts byteInfo
  have hlen := vput_len10 hn
  go_enter Tryd.func44, Tryd.ntmps44
  go_wp2
  go_loopw [0, 3] (fun m v wr => ∃ (k : Nat) (l : List UInt8), vput n = l ++ vput k ∧ k < 18446744073709551616 ∧ m = .int .u64 (k : Int) ∧ wr.ownsRow w.heap.size 5 1 v l.length (bytesV l) ∧ Below w.heap.size w wr) (fun m _ _ => (intOf m).toNat)
  case atStart => exact ⟨n, [], rfl, hn, rfl, World.ownsRow_nil _ _ _ _, Below.refl _ _⟩
  case round =>
    obtain ⟨k, l, hv, hk, rfl, hT, hbel⟩ := hrel
    have hB := hbel.size
    have hl10 : l.length ≤ 10 := by rw [hv] at hlen; simp at hlen; omega
    have HV := Lib.hid hv
    clear hv
    by_cases hlt : k < 128
    · have hd : decide (128 ≤ (k : Int)) = false := by simp; omega
      have hend := Lib.hid (show vput n = l ++ [UInt8.ofNat k] by rw [HV.out, vput_small hlt])
      go_wp2_with (first
        | (at_builtin; refine wpList_append_own _ rfl (.tmp 14) (.tmp 17) 144 rfl w.heap.size 5 i0 (.int .u8 0) 1 1 Tryd.underlying144 hi hz0 hz1 hz2 rfl (by decide) u3 l.length (bytesV l) rfl (hT.alloc _) ⟨wr.heap.size, 0, none⟩ 1 1 [Value.int .u8 (k : Int)] rfl rfl (cells_new1 _ _ _) (by intro u hu; simp at hu; subst hu; rfl) (by unfold maxLen; omega) (by omega) (by simp; omega) ?_; intro v1 w1 hT1 hg1 _; have hb1 := grown_own (hbel.alloc hB _) hg1 (by simp; omega) (hT.alloc _)))
      rw [byteV_of (b := UInt8.ofNat k) (by simp; omega)] at hT1
      obtain ⟨A1, c1, rfl⟩ := own_form hT1
      have hs1 := string_own (P := Tryd.prog) 144 5 9 Tryd.underlying144 Tryd.underlying5 Tryd.underlying9 (own_snoc' hT1) (by simp) (by omega)
      rw [hs1]
      go_wp2
      go_ret
      exact ⟨by rw [hend.out]; rfl, hb1⟩
    · have hd : decide (128 ≤ (k : Int)) = true := by simp; omega
      have hnext := Lib.hid (vput_next HV.out hlt)
      have hlow := low7 k
      rw [IntKind.wrap_u8'] at hlow
      have hl9 : l.length ≤ 9 := by
        have h1 := hnext.out
        have h2 := vput_pos (k / 128)
        rw [h1] at hlen
        simp at hlen
        omega
      go_wp2_with (first
        | (at_builtin; refine wpList_append_own _ rfl (.tmp 6) (.tmp 10) 144 rfl w.heap.size 5 i0 (.int .u8 0) 1 1 Tryd.underlying144 hi hz0 hz1 hz2 rfl (by decide) u3 l.length (bytesV l) rfl (hT.alloc _) ⟨wr.heap.size, 0, none⟩ 1 1 [byteV (UInt8.ofNat (k % 128 + 128))] rfl rfl (cells_new1 _ _ _) (by intro u hu; simp at hu; subst hu; rfl) (by unfold maxLen; omega) (by omega) (by simp; omega) ?_; intro v1 w1 hT1 hg1 _; have hb1 := grown_own (hbel.alloc hB _) hg1 (by simp; omega) (hT.alloc _); have hT2 := own_snoc hT1))
      go_roundw
      case rel => exact ⟨k / 128, _, hnext.out, by omega, valI (shr7 k), hT2, hb1⟩
      case measure => simp [intOf]; omega
end Go.Proofs.YtglemfdnfaemiaaDoor
end

section
namespace Go.Proofs.YtglemfdnfaemiaaDoor
open Go.RowKit As
theorem sbyte (s : ByteArray) (k : Nat) (h : k < s.size) : s.data.toList[k]'(by simpa using h) = s[k] := rfl
theorem u64_byte (b : UInt8) : IntKind.u64.wrap (b.toNat : Int) = (b.toNat : Int) := by
  have := b.toNat_lt
  rw [IntKind.wrap_u64]; omega
/-- A byte's seven bits taken in. -/
theorem vor {a b k : Nat} (ha : a < 2 ^ (7 * k)) (hb : b < 256) (hf : a + b % 128 * 2 ^ (7 * k) < 18446744073709551616) :
    bits BinOp.or IntKind.u64 (a : Int) (IntKind.u64.wrap (bits BinOp.and IntKind.u64 (b : Int) 127 * 2 ^ (7 * k))) = ((a + b % 128 * 2 ^ (7 * k) : Nat) : Int) := by
  have e1 : bits BinOp.and IntKind.u64 (b : Int) 127 = ((b % 128 : Nat) : Int) := by
    have e := u64_and_nat b 127 (by omega) (by omega)
    rw [nat_mask7] at e
    exact e
  have hp : b % 128 * 2 ^ (7 * k) < 18446744073709551616 := by omega
  have e2 : ((b % 128 : Nat) : Int) * 2 ^ (7 * k) = ((b % 128 * 2 ^ (7 * k) : Nat) : Int) := by simp
  rw [e1, e2, IntKind.wrap_u64, Int.emod_eq_of_lt (by omega) (by omega), u64_or_nat a _ (by omega) hp, Nat.or_comm, nat_join (7 * k) _ _ (Nat.mul_mod_left _ _) ha, Nat.add_comm]
theorem vor_at (s : ByteArray) (k : Nat) (h : k < s.size) (h9 : k ≤ 9) (hb : ¬ (k = 9 ∧ 1 < s[k].toNat)) :
    bits BinOp.or IntKind.u64 (vval (s.data.toList.take k) : Int) (IntKind.u64.wrap (bits BinOp.and IntKind.u64 (s[k].toNat : Int) 127 * 2 ^ (7 * k))) = (vval (s.data.toList.take (k + 1)) : Int) := by
  have hl : k < s.data.toList.length := by simpa using h
  have hn := vval_next hl
  have hfit := vval_fits hl h9 (by rw [sbyte s k h]; exact hb)
  rw [sbyte s k h] at hn
  rw [hn] at hfit
  rw [hn, pow128]
  rw [pow128] at hfit
  have hlt := vval_take_lt s.data.toList k (by omega)
  rw [pow128] at hlt
  exact vor hlt s[k].toNat_lt hfit
theorem retT3 {n n' k k' : Int} {v v' : Value} {t t' : IntKind} (h1 : n = n') (h2 : k = k') (h3 : v = v') : Ending.returned (.tuple #[.int t n, .int t' k, v]) = .returned (.tuple #[.int t n', .int t' k', v']) := by rw [h1, h2, h3]
set_option maxHeartbeats 1000000 in
set_option maxRecDepth 100000 in
theorem vget_any (s : ByteArray) (w : World) (hs : s.size ≤ maxLen) :
    Calls Tryd.prog 43 #[.string s] w fun e w' => e = .returned (.tuple #[.int .u64 ((vget s.data.toList).1 : Int), .int .i64 ((vget s.data.toList).2.1 : Int), errV (vget s.data.toList).2.2]) ∧ w = w' := by
  unfold maxLen at hs
  go_enter Tryd.func43, Tryd.ntmps43
  go_wp2
  go_loop [5, 6, 7, 10] (fun n _ _ i => ∃ k : Nat, k ≤ s.size ∧ i = .int .i64 k ∧ n = .int .u64 (vval (s.data.toList.take k) : Int) ∧ VG s.data.toList k) (fun _ _ _ i => s.size - (intOf i).toNat)
  case atStart => exact ⟨0, by omega, rfl, rfl, VG.zero _⟩
  case round =>
    obtain ⟨k, hk, rfl, rfl, hvg⟩ := hrel
    have HV := Lib.hid hvg
    have h9 := hvg.2.1
    clear hvg
    by_cases hlt : k < s.size
    · have hlt' : k < s.data.toList.length := by simpa using hlt
      have hsb := Lib.hid (sbyte s k hlt)
      have hb256 := s[k].toNat_lt
      have hw := u64_byte s[k]
      by_cases c1 : k = 9 ∧ 1 < s[k].toNat
      · have hres := Lib.hid (HV.out.limit hlt' c1.1 (by rw [hsb.out]; exact c1.2))
        have d1 : ((k : Int) == 9) = true := by simp; omega
        have d2 : decide (1 < (s[k].toNat : Int)) = true := by simp; omega
        clear c1
        go_wp2
        go_ret3
        exact ⟨by rw [hres.out]; rfl, rfl⟩
      · have hvor := Lib.hid (vor_at s k hlt h9 c1)
        by_cases c2 : s[k].toNat = 0 ∧ 0 < k
        · have hres := Lib.hid (HV.out.form hlt' c2.2 (by rw [hsb.out]; exact c2.1))
          have d1 : decide (1 < (s[k].toNat : Int)) = false := by simp; omega
          have d2 : decide ((s[k].toNat : Int) < 128) = true := by simp; omega
          have d3 : ((s[k].toNat : Int) == 0) = true := by simp; omega
          have d4 : decide (0 < k) = true := by simp; omega
          clear c1 c2
          by_cases e9 : k = 9
          · have d5 : ((k : Int) == 9) = true := by simp; omega
            clear e9
            go_wp2
            go_ret3
            exact ⟨by rw [hres.out]; rfl, rfl⟩
          · have d5 : ((k : Int) == 9) = false := by simp; omega
            clear e9
            go_wp2
            go_ret3
            exact ⟨by rw [hres.out]; rfl, rfl⟩
        · by_cases c3 : s[k].toNat < 128
          · have hres := Lib.hid (HV.out.done hlt' (by rw [hsb.out]; exact c1) (by rw [hsb.out]; exact c3) (by rw [hsb.out]; exact c2))
            have d2 : decide ((s[k].toNat : Int) < 128) = true := by simp; omega
            by_cases e0 : s[k].toNat = 0
            · have d3 : ((s[k].toNat : Int) == 0) = true := by simp; omega
              have d4 : decide (0 < k) = false := by simp; omega
              have d5 : ((k : Int) == 9) = false := by simp; omega
              clear c1 c2 c3 e0
              go_wp2
              go_ret3
              exact ⟨by rw [hres.out]; exact retT3 hvor.out (by go_num) rfl, rfl⟩
            · have d3 : ((s[k].toNat : Int) == 0) = false := by simp; omega
              by_cases e9 : k = 9
              · have d5 : ((k : Int) == 9) = true := by simp; omega
                have d1 : decide (1 < (s[k].toNat : Int)) = false := by simp; omega
                clear c1 c2 c3 e0 e9
                go_wp2
                go_ret3
                exact ⟨by rw [hres.out]; exact retT3 hvor.out (by go_num) rfl, rfl⟩
              · have d5 : ((k : Int) == 9) = false := by simp; omega
                clear c1 c2 c3 e0 e9
                go_wp2
                go_ret3
                exact ⟨by rw [hres.out]; exact retT3 hvor.out (by go_num) rfl, rfl⟩
          · have hnext := Lib.hid (HV.out.succ hlt' (by rw [hsb.out]; exact c1) (by rw [hsb.out]; exact c3))
            have d2 : decide ((s[k].toNat : Int) < 128) = false := by simp; omega
            have d5 : ((k : Int) == 9) = false := by simp; omega
            clear c1 c2 c3
            go_wp2
            go_round
            case rel => exact ⟨k + 1, by omega, by go_num, valI hvor.out, hnext.out⟩
            case measure => simp [intOf]; omega
    · obtain rfl : k = s.size := by omega
      have hres := Lib.hid (HV.out.out (by simp))
      clear hlt
      go_wp2
      go_ret3
      exact ⟨by rw [hres.out]; rfl, rfl⟩
theorem modB (b : UInt8) : (b.toNat : Int) % 128 = ((b.toNat % 128 : Nat) : Int) := by omega
set_option maxHeartbeats 1000000 in
set_option maxRecDepth 100000 in
theorem runvary_any (s : ByteArray) (w : World) (hs : s.size ≤ maxLen) :
    Calls Tryd.prog 42 #[.string s] w fun e w' => e = .returned (.tuple #[.int .u64 ((vget s.data.toList).1 : Int), .int .i64 ((vget s.data.toList).2.1 : Int), .int .i64 (vget s.data.toList).2.2]) ∧ w = w' := by
  unfold maxLen at hs
  go_enter Tryd.func42, Tryd.ntmps42
  go_wp2
  go_loop [5] (fun i => ∃ k : Nat, k ≤ s.size ∧ i = .int .i64 k ∧ VG s.data.toList k) (fun i => s.size - (intOf i).toNat)
  case atStart => exact ⟨0, by omega, rfl, VG.zero _⟩
  case round =>
    obtain ⟨k, hk, rfl, hvg⟩ := hrel
    have HV := Lib.hid hvg
    have h9 := hvg.2.1
    clear hvg
    by_cases hlt : k < s.size
    · have hlt' : k < s.data.toList.length := by simpa using hlt
      have hsb := Lib.hid (sbyte s k hlt)
      have hb256 := s[k].toNat_lt
      have d0 : ((k : Int) == (s.size : Int)) = false := by simp; omega
      by_cases c1 : k = 9 ∧ 1 < s[k].toNat
      · have hres := Lib.hid (HV.out.limit hlt' c1.1 (by rw [hsb.out]; exact c1.2))
        have d1 : ((k : Int) == 9) = true := by simp; omega
        have d2 : decide (1 < (s[k].toNat : Int)) = true := by simp; omega
        clear c1
        go_wp2
        go_ret3
        exact ⟨by rw [hres.out]; rfl, rfl⟩
      · by_cases c2 : s[k].toNat = 0 ∧ 0 < k
        · have hres := Lib.hid (HV.out.form hlt' c2.2 (by rw [hsb.out]; exact c2.1))
          have d1 : decide (1 < (s[k].toNat : Int)) = false := by simp; omega
          have d3 : ((s[k].toNat : Int) == 0) = true := by simp; omega
          have d4 : decide (0 < k) = true := by simp; omega
          clear c1 c2
          by_cases e9 : k = 9
          · have d5 : ((k : Int) == 9) = true := by simp; omega
            clear e9
            go_wp2
            go_ret3
            exact ⟨by rw [hres.out]; rfl, rfl⟩
          · have d5 : ((k : Int) == 9) = false := by simp; omega
            clear e9
            go_wp2
            go_ret3
            exact ⟨by rw [hres.out]; rfl, rfl⟩
        · have hC1 := Lib.hid c1
          by_cases c3 : s[k].toNat < 128
          · have hres := Lib.hid (HV.out.done hlt' (by rw [hsb.out]; exact c1) (by rw [hsb.out]; exact c3) (by rw [hsb.out]; exact c2))
            have hfit := vval_fits hlt' h9 (by rw [hsb.out]; exact c1)
            have d2 : decide ((s[k].toNat : Int) < 128) = true := by simp; omega
            have hd : (((s[k].toNat : Int) == 0) = true ∧ decide (0 < k) = false ∧ ((k : Int) == 9) = false) ∨ (((s[k].toNat : Int) == 0) = false ∧ ((k : Int) == 9) = true ∧ decide (1 < (s[k].toNat : Int)) = false) ∨ (((s[k].toNat : Int) == 0) = false ∧ ((k : Int) == 9) = false) := by
              simp only [beq_iff_eq, beq_eq_false_iff_ne, decide_eq_false_iff_not]
              omega
            clear c1 c2 c3
            rcases hd with ⟨d3, d4, d5⟩ | ⟨d3, d5, d6⟩ | ⟨d3, d5⟩
            all_goals
              go_wp2
              go_loop [6, 7] (fun n j => ∃ m : Nat, m ≤ k + 1 ∧ j = .int .i64 ((m : Int) - 1) ∧ n = .int .u64 (vtail s.data.toList (k + 1) m : Int)) (fun _ j => (intOf j + 1).toNat)
              case atStart => exact ⟨k + 1, by omega, by go_num, by rw [vtail_end]; rfl⟩
              case round =>
                obtain ⟨m, hm, rfl, rfl⟩ := hrel
                cases m with
                | zero =>
                  have ej : (((0 : Nat) : Int) - 1) = -1 := by omega
                  rw [ej]
                  clear ej
                  go_wp2
                  go_ret3
                  exact ⟨by rw [hres.out]; exact retT3 rfl (by go_num) rfl, rfl⟩
                | succ m =>
                  have ej : (((m + 1 : Nat) : Int) - 1) = (m : Int) := by omega
                  rw [ej]
                  clear ej
                  have hms : m < s.size := by omega
                  have hn := vtail_prev (l := s.data.toList) (i := k + 1) (k := m) (by omega) (by omega)
                  rw [sbyte s m hms] at hn
                  have hle := vtail_le s.data.toList (k + 1) m
                  have hbm := s[m].toNat_lt
                  have hN := Lib.hid hn
                  have hV : vtail s.data.toList (k + 1) m < 18446744073709551616 := by omega
                  clear hn
                  go_wp2
                  go_round
                  case rel =>
                    refine ⟨m, by omega, rfl, valI ?_⟩
                    have hn := hN.out
                    simp only [IntKind.wrap_u64]
                    omega
                  case measure => simp [intOf]
          · have hnext := Lib.hid (HV.out.succ hlt' (by rw [hsb.out]; exact c1) (by rw [hsb.out]; exact c3))
            have d2 : decide ((s[k].toNat : Int) < 128) = false := by simp; omega
            have d3 : ((s[k].toNat : Int) == 0) = false := by simp; omega
            have d5 : ((k : Int) == 9) = false := by simp; omega
            clear c1 c2 c3
            go_wp2
            go_round
            case rel => exact ⟨k + 1, by omega, by go_num, hnext.out⟩
            case measure => simp [intOf]; omega
    · obtain rfl : k = s.size := by omega
      have hres := Lib.hid (HV.out.out (by simp))
      clear hlt
      go_wp2
      go_ret3
      exact ⟨by rw [hres.out]; rfl, rfl⟩
/-- int of a number that fits. -/
theorem i64_small {n : Nat} (h : n < 9223372036854775808) : IntKind.i64.wrap (n : Int) = (n : Int) := IntWalk.i64_in _ (by omega)
set_option maxHeartbeats 1000000 in
set_option maxRecDepth 100000 in
theorem vint_any (s : ByteArray) (most : Int) (w : World) (hs : s.size ≤ maxLen) (hm : most ≤ 9223372036854775807) :
    Calls Tryd.prog 29 #[.string s, .int .i64 most] w fun e w' => e = .returned (.tuple #[.int .i64 ((vint s.data.toList most).1 : Int), .int .i64 ((vint s.data.toList most).2.1 : Int), errV (vint s.data.toList most).2.2]) ∧ w = w' := by
  have H := Lib.hid (show vint s.data.toList most = _ from rfl)
  unfold vint at H
  obtain ⟨x, hx⟩ : ∃ x, x = vint s.data.toList most := ⟨_, rfl⟩
  obtain ⟨g, hg⟩ : ∃ g, g = vget s.data.toList := ⟨_, rfl⟩
  have hX : x = if g.2.2 ≠ 0 then (0, 0, g.2.2) else if most < 0 ∨ most < (g.1 : Int) then (0, 0, 2) else g := by rw [hx, hg]; rfl
  have hsay := vget_says s.data.toList
  rw [← hg] at hsay
  have HG := Lib.hid hg
  rw [← hx]
  clear hx hg H
  obtain ⟨n, k, e⟩ := g
  simp only at hX hsay
  by_cases he : e = 0
  · subst he
    have hn : n < 18446744073709551616 := by
      rcases hsay with h | h | h | h
      · exact h.2.1
      all_goals (injection h with h _; omega)
    clear hsay
    rw [if_neg (by simp)] at hX
    by_cases h1 : most < 0
    · rw [if_pos (.inl h1)] at hX
      subst hX
      go_enter Tryd.func29, Tryd.ntmps29
      go_wp2_with fail
      refine (vget_any s w hs).mono ?_
      rintro e w' ⟨rfl, rfl⟩
      rw [← HG.out]
      simp only [errV_zero]
      go_wp2
      go_ret3
      exact ⟨rfl, rfl⟩
    · have hw : IntKind.u64.wrap most = most := by rw [IntKind.wrap_u64]; omega
      by_cases h2 : most < (n : Int)
      · rw [if_pos (.inr h2)] at hX
        subst hX
        go_enter Tryd.func29, Tryd.ntmps29
        go_wp2_with fail
        refine (vget_any s w hs).mono ?_
        rintro e w' ⟨rfl, rfl⟩
        rw [← HG.out]
        simp only [errV_zero]
        go_wp2
        go_ret3
        exact ⟨rfl, rfl⟩
      · rw [if_neg (by omega)] at hX
        subst hX
        have hi : IntKind.i64.wrap (n : Int) = (n : Int) := i64_small (by omega)
        go_enter Tryd.func29, Tryd.ntmps29
        go_wp2_with fail
        refine (vget_any s w hs).mono ?_
        rintro e w' ⟨rfl, rfl⟩
        rw [← HG.out]
        simp only [errV_zero]
        go_wp2
        go_ret3
        exact ⟨rfl, rfl⟩
  · rw [if_pos he] at hX
    subst hX
    have hv := Lib.hid (errV_of he)
    go_enter Tryd.func29, Tryd.ntmps29
    go_wp2_with fail
    refine (vget_any s w hs).mono ?_
    rintro e w' ⟨rfl, rfl⟩
    rw [← HG.out]
    simp only [hv.out]
    go_wp2
    go_ret3
    exact ⟨retT3 rfl rfl hv.out.symm, rfl⟩
set_option maxHeartbeats 1000000 in
set_option maxRecDepth 100000 in
theorem rvint_any (s : ByteArray) (most : Int) (w : World) (hs : s.size ≤ maxLen) (hm : most ≤ 9223372036854775807) :
    Calls Tryd.prog 28 #[.string s, .int .i64 most] w fun e w' => e = .returned (.tuple #[.int .i64 ((vint s.data.toList most).1 : Int), .int .i64 ((vint s.data.toList most).2.1 : Int), .int .i64 (vint s.data.toList most).2.2]) ∧ w = w' := by
  have H := Lib.hid (show vint s.data.toList most = _ from rfl)
  unfold vint at H
  obtain ⟨x, hx⟩ : ∃ x, x = vint s.data.toList most := ⟨_, rfl⟩
  obtain ⟨g, hg⟩ : ∃ g, g = vget s.data.toList := ⟨_, rfl⟩
  have hX : x = if g.2.2 ≠ 0 then (0, 0, g.2.2) else if most < 0 ∨ most < (g.1 : Int) then (0, 0, 2) else g := by rw [hx, hg]; rfl
  have hsay := vget_says s.data.toList
  rw [← hg] at hsay
  have HG := Lib.hid hg
  rw [← hx]
  clear hx hg H
  obtain ⟨n, k, e⟩ := g
  simp only at hX hsay
  by_cases he : e = 0
  · subst he
    have hn : n < 18446744073709551616 := by
      rcases hsay with h | h | h | h
      · exact h.2.1
      all_goals (injection h with h _; omega)
    clear hsay
    rw [if_neg (by simp)] at hX
    by_cases h1 : most < 0
    · rw [if_pos (.inl h1)] at hX
      subst hX
      go_enter Tryd.func28, Tryd.ntmps28
      go_wp2_with fail
      refine (runvary_any s w hs).mono ?_
      rintro e w' ⟨rfl, rfl⟩
      rw [← HG.out]
      go_wp2
      go_ret3
      exact ⟨rfl, rfl⟩
    · have hw : IntKind.u64.wrap most = most := by rw [IntKind.wrap_u64]; omega
      by_cases h2 : most < (n : Int)
      · rw [if_pos (.inr h2)] at hX
        subst hX
        go_enter Tryd.func28, Tryd.ntmps28
        go_wp2_with fail
        refine (runvary_any s w hs).mono ?_
        rintro e w' ⟨rfl, rfl⟩
        rw [← HG.out]
        go_wp2
        go_ret3
        exact ⟨rfl, rfl⟩
      · rw [if_neg (by omega)] at hX
        subst hX
        have hi : IntKind.i64.wrap (n : Int) = (n : Int) := i64_small (by omega)
        go_enter Tryd.func28, Tryd.ntmps28
        go_wp2_with fail
        refine (runvary_any s w hs).mono ?_
        rintro e w' ⟨rfl, rfl⟩
        rw [← HG.out]
        go_wp2
        go_ret3
        exact ⟨rfl, rfl⟩
  · rw [if_pos he] at hX
    subst hX
    have hne : (e != 0) = true := by rw [bne_iff_ne]; exact he
    go_enter Tryd.func28, Tryd.ntmps28
    go_wp2_with fail
    refine (runvary_any s w hs).mono ?_
    rintro e w' ⟨rfl, rfl⟩
    rw [← HG.out]
    go_wp2
    go_ret3
    exact ⟨rfl, rfl⟩
end Go.Proofs.YtglemfdnfaemiaaDoor
end
