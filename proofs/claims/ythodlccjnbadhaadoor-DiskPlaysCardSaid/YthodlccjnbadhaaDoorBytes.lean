/- A buffer of bytes in a block of the call's own. Any program. -/
import Derived.Test.YthodlccjnbadhaaDoorMem
import Derived.Laws.IdiomStrings
import Derived.Laws.BytesArg
namespace Go.Proofs.YthodlccjnbadhaaDoor
open Go.RowKit
/-- Block g begins with the bytes l, none of them frozen. -/
def BytesAt (w : World) (g : Nat) (l : List UInt8) : Prop := ∀ i, i < l.length → w.cell? ⟨g, i, none⟩ = some (.int .u8 (l.getD i 0).toNat) ∧ w.frozen? ⟨g, i, none⟩ = false
theorem getD_at {α : Type} (l : List α) (d : α) (i : Nat) (h : i < l.length) : l.getD i d = l[i] := by simp [List.getD, List.getElem?_eq_getElem h]
theorem BytesAt.set {w : World} {g : Nat} {l : List UInt8} (h : BytesAt w g l) (k : Nat) (b : UInt8) (hk : k < l.length) : BytesAt (w.setCell ⟨g, k, none⟩ (.int .u8 b.toNat)) g (l.set k b) := by
  intro i hi
  rw [List.length_set] at hi
  refine ⟨?_, by rw [World.frozen?_setCell]; exact (h i hi).2⟩
  by_cases e : i = k
  · subst e
    rw [World.cell?_setCell_same _ _ _ (h i hi).1]
    rw [getD_at _ _ _ (by simpa using hi)]
    simp
  · rw [World.cell?_setCell_other _ _ _ _ (by intro h'; injection h' with _ h''; exact e h''.symm)]
    rw [(h i hi).1, getD_at l _ _ hi, getD_at (l.set k b) _ _ (by simpa using hi), List.getElem_set_ne (Ne.symm e)]
theorem BytesAt.set_nat {w : World} {g : Nat} {l : List UInt8} (h : BytesAt w g l) (k n : Nat) (hn : n < 256) (hk : k < l.length) : BytesAt (w.setCell ⟨g, k, none⟩ (.int .u8 (n : Int))) g (l.set k (UInt8.ofNat n)) := by
  have e := h.set k (UInt8.ofNat n) hk
  have e2 : ((UInt8.ofNat n).toNat : Int) = (n : Int) := by simp; omega
  rw [e2] at e
  exact e
theorem BytesAt.keep {w w' : World} {g B : Nat} {l : List UInt8} (h : BytesAt w g l) (hb : Below B w w') (hg : g < B) : BytesAt w' g l :=
  fun i hi => ⟨(hb.cell (p := ⟨g, i, none⟩) hg).trans (h i hi).1, (hb.frozen (p := ⟨g, i, none⟩) hg).trans (h i hi).2⟩
theorem BytesAt.drew {w : World} {g : Nat} {l : List UInt8} (h : BytesAt w g l) : BytesAt w.drew g l := h
theorem BytesAt.lt {w : World} {g : Nat} {l : List UInt8} (h : BytesAt w g l) (hl : 0 < l.length) : g < w.heap.size := cell_lt (h 0 hl).1
theorem bytes_of {P : Program} (w : World) (src dst e : TypeId) (s : ByteArray) (hs : P.underlying src = some .string) (hd : P.underlying dst = some (.slice e)) (he : P.underlying e = some (.int .u8)) :
    ∃ C W, (convert src dst (.string s)).run P w = .ok (.slice (some ⟨w.heap.size, 0, none⟩) s.size C) W ∧ BytesAt W w.heap.size s.data.toList ∧ Below w.heap.size w W := by
  refine ⟨_, _, run_bytes_of_string w src dst e s hs hd he, ?_, ?_⟩
  · intro i hi
    have hi' : i < s.size := by simpa using hi
    have hc : (bytesRow s (grownCap w s.size 0 e))[i]? = some (.int .u8 (s.data.toList.getD i 0).toNat) := by
      unfold bytesRow
      rw [Array.getElem?_append_left (by simpa using hi'), getD_at _ _ _ hi]
      simp only [Array.getElem?_map]
      rw [Array.getElem?_eq_getElem (by simpa using hi')]
      simp
    have hz : i < (bytesRow s (grownCap w s.size 0 e)).size := (Array.getElem?_eq_some_iff.1 hc).1
    generalize bytesRow s (grownCap w s.size 0 e) = R at hc hz
    constructor
    · show World.cell? (World.alloc w.drew _) _ = _
      have : (w.drew.alloc (.cells R e (R.size, R.size + 1))).cell? ⟨w.drew.heap.size, i, none⟩ = R[i]? := by
        show (match (w.drew.heap.push (Obj.cells R e (R.size, R.size + 1)))[w.drew.heap.size]? with
          | some (Obj.cells c elem frozen) => c[i]?
          | _ => none) = R[i]?
        rw [Array.getElem?_push_size]
      rw [← hc]
      exact this
    · have : (w.drew.alloc (.cells R e (R.size, R.size + 1))).frozen? ⟨w.drew.heap.size, i, none⟩ = false := by
        simp only [World.alloc, World.frozen?, Array.getElem?_push_size]
        simp
        omega
      exact this
  · exact ((Below.refl _ w).drew).alloc (Nat.le_refl _) _
theorem string_of {P : Program} (w : World) (src e dst : TypeId) (g c : Nat) (l : List UInt8) (hs : P.underlying src = some (.slice e)) (he : P.underlying e = some (.int .u8)) (hd : P.underlying dst = some .string) (h : BytesAt w g l) :
    (convert src dst (.slice (some ⟨g, 0, none⟩) l.length c)).run P w = .ok (.string ⟨l.toArray⟩) w := by
  rw [run_convert_bytes_arg w src e hs he g 0 l.length c (l.map fun b => (b.toNat : Int)) (by simp) (fun i hi => by
    rw [Nat.zero_add, (h i hi).1, getD_at _ _ _ hi]
    simp [List.getD, List.getElem?_eq_getElem hi]) dst hd]
  congr 2
  simp only [strOfNums, List.map_map]
  congr 1
  have e : ((fun n : Int => UInt8.ofNat n.toNat) ∘ fun b : UInt8 => (b.toNat : Int)) = id := by
    funext b
    simp
  rw [e, List.map_id]
end Go.Proofs.YthodlccjnbadhaaDoor
