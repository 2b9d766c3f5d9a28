/- Runs lie apart; how far the reference is, run by run. Plain Lean.

VectorJoin of the reference says what vjoin says. -/
import Derived.Test.YtkejlnjnoiidnaaGreatDoorZ5
import Derived.Test.YtkejlnjnoiidnaaGreatDoorZ3
import Derived.Test.YtkejlnjnoiidnaaGreatDoorZ2
import Derived.OwnWalk
import Derived.Maps.AppendAt
section
namespace Go.Proofs.YtkejlnjnoiidnaaGreatDoor
def lastR (r : List Ent) : Int := (r.getLast?.getD (0, 0)).1
def headR (r : List Ent) : Int := (r.head?.getD (0, 0)).1
def Apart (R : List (List Ent)) : Prop := ∀ (i : Nat) r r', R[i]? = some r → R[i + 1]? = some r' → lastR r + 2 ≤ headR r'
theorem apart_snoc (l : List Ent) (x : Ent) (h : Apart (runs l)) (hp : (l ++ [x]).Pairwise (fun x y => x.1 < y.1)) : Apart (runs (l ++ [x])) := by
 rw [runs_snoc]
 unfold rstep
 split
 ·intro i r r' h1 h2
  simp at h2
 ·rename_i q hq
  obtain ⟨rs, hrs⟩ := List.getLast?_eq_some_iff.1 hq
  have hne : q ≠ [] := runs_ne l q (by rw [hrs]; simp)
  rw [hrs] at h
  split
  ·rw [hrs, List.dropLast_concat]
   intro i r r' h1 h2
   rw [List.getElem?_append] at h1 h2
   by_cases hi : i + 1 < rs.length
   ·rw [if_pos (by omega)] at h1
    rw [if_pos hi] at h2
    exact h i r r' (by rw [List.getElem?_append_left (by omega)]; exact h1) (by rw [List.getElem?_append_left hi]; exact h2)
   ·rw [if_neg hi] at h2
    have e : i + 1 - rs.length = 0 := by
     rcases Nat.eq_zero_or_pos (i + 1 - rs.length) with h0 | h0
     ·exact h0
     ·rw [List.getElem?_eq_none (by simp; omega)] at h2; cases h2
    rw [e] at h2
    simp at h2
    subst h2
    rw [if_pos (by omega)] at h1
    have h3 := h i r q (by rw [List.getElem?_append_left (by omega)]; exact h1) (by rw [List.getElem?_append_right (by omega), e]; rfl)
    have : headR (q ++ [x]) = headR q := by
     cases q with
     | nil => exact absurd rfl hne
     | cons y q => rfl
    rw [this]; exact h3
  ·rename_i hx
   rw [hrs]
   intro i r r' h1 h2
   rw [List.getElem?_append] at h1 h2
   by_cases hi : i + 1 < (rs ++ [q]).length
   ·rw [if_pos (by omega)] at h1
    rw [if_pos hi] at h2
    exact h i r r' h1 h2
   ·rw [if_neg hi] at h2
    have e : i + 1 - (rs ++ [q]).length = 0 := by
     rcases Nat.eq_zero_or_pos (i + 1 - (rs ++ [q]).length) with h0 | h0
     ·exact h0
     ·rw [List.getElem?_eq_none (by simp; simp at h0; omega)] at h2; cases h2
    rw [e] at h2
    simp at h2
    subst h2
    have hi' : i = rs.length := by simp at hi e; omega
    subst hi'
    rw [if_pos (by simp), List.getElem?_append_right (Nat.le_refl _), Nat.sub_self] at h1
    simp at h1
    subst h1
    -- the last entry of l
    rcases List.eq_nil_or_concat l with rfl | ⟨l', y, rfl⟩
    ·simp [runs] at hq
    ·rw [List.concat_eq_append] at hq hrs hp
     obtain ⟨rs', r', e1, e2⟩ := runs_last l' y
     rw [e1] at hrs
     have := congrArg List.getLast? hrs
     simp at this
     subst this
     rw [e2] at hx
     simp only [Option.getD_some] at hx
     have hlt : y.1 < x.1 := by
      rw [List.append_assoc, List.pairwise_append] at hp
      have := hp.2.1
      simp at this
      exact this
     show (r'.getLast?.getD (0, 0)).1 + 2 ≤ x.1
     rw [e2]
     simp only [Option.getD_some]
     omega
theorem runs_apart (l : List Ent) (hp : l.Pairwise (fun x y => x.1 < y.1)) : Apart (runs l) := by
 suffices H : ∀ l : List Ent, l.reverse.Pairwise (fun x y => x.1 < y.1) → Apart (runs l.reverse) by
  have := H l.reverse (by simpa using hp)
  simpa using this
 intro l
 induction l with
 | nil => intro _ i r r' h1 _; simp [runs] at h1
 | cons x l ih =>
  intro h
  rw [List.reverse_cons] at h ⊢
  exact apart_snoc _ _ (ih (List.pairwise_append.1 h).1) h
theorem run_mem {l : List Ent} {r : List Ent} {x : Ent} (hr : r ∈ runs l) (hx : x ∈ r) : x ∈ l := by
 rw [← runs_flat l]
 exact List.mem_flatten.2 ⟨r, hr, hx⟩
/-- How far the reference is. -/
structure RAt (R : List (List Ent)) (i : Nat) (X : List UInt8) (E : Int) : Prop where
 fx : (rbytes (R.take i)).1 = X
 fe : (rbytes (R.take i)).2 = E
 len : X.length ≤ 40 * ((R.take i).flatten.length)
 lo : -1 ≤ E
 hi : E ≤ 200
 neg : E < 0 ↔ i = 0
 prev : ∀ r, 0 < i → R[i - 1]? = some r → lastR r = E
theorem RAt.new (R : List (List Ent)) : RAt R 0 [] (-1) := ⟨rfl, rfl, by simp, by omega, by omega, by simp, fun _ h => by omega⟩
theorem RAt.next {l : List Ent} {i : Nat} {X : List UInt8} {E : Int} {r : List Ent} (h : RAt (runs l) i X E) (hris : Rises 0 l) (h16 : l.length ≤ 16) (hr : (runs l)[i]? = some r) :
  RAt (runs l) (i + 1) (X ++ (vput (if E < 0 then headR r else headR r - E - 2).toNat ++ vput (r.length - 1) ++ times r)) (lastR r) ∧ 0 ≤ (if E < 0 then headR r else headR r - E - 2) ∧ (if E < 0 then headR r else headR r - E - 2) ≤ 200 := by
 obtain ⟨hi, er⟩ := List.getElem?_eq_some_iff.1 hr
 have hmem : r ∈ runs l := List.mem_of_getElem? hr
 have hne := runs_ne l r hmem
 have hlen : 0 < r.length := List.length_pos_iff.2 hne
 have hhead : headR r = (r[0]).1 := by unfold headR; rw [List.head?_eq_getElem?, List.getElem?_eq_getElem hlen]; rfl
 have hlast : lastR r = (r[r.length - 1]).1 := by unfold lastR; rw [List.getLast?_eq_getElem?, List.getElem?_eq_getElem (by omega)]; rfl
 have b0 := hris.1 _ (run_mem hmem (List.getElem_mem hlen))
 have b1 := hris.1 _ (run_mem hmem (List.getElem_mem (show r.length - 1 < r.length by omega)))
 have htake : (runs l).take (i + 1) = (runs l).take i ++ [r] := by rw [List.take_succ_eq_append_getElem hi, er]
 have hgap : 0 ≤ (if E < 0 then headR r else headR r - E - 2) ∧ (if E < 0 then headR r else headR r - E - 2) ≤ 200 := by
  have hn := h.neg
  by_cases hE : E < 0
  ·rw [if_pos hE, hhead]; omega
  ·rw [if_neg hE]
   have hi0 : 0 < i := by
    rcases Nat.eq_zero_or_pos i with h0 | h0
    ·exact absurd (hn.2 h0) hE
    ·exact h0
   have hp := h.prev (runs l)[i - 1] hi0 (List.getElem?_eq_getElem (by omega))
   have ha := runs_apart l hris.2 (i - 1) _ r (List.getElem?_eq_getElem (by omega)) (by rw [show i - 1 + 1 = i by omega]; exact hr)
   rw [hp] at ha
   rw [hhead] at ha ⊢
   omega
 have hlenle : r.length ≤ 16 := by
  have h2 := (List.sublist_flatten_of_mem hmem).length_le
  rw [runs_flat] at h2
  omega
 have hgl := vput_len10 (n := (if E < 0 then headR r else headR r - E - 2).toNat) (by omega)
 have hml := vput_len10 (n := r.length - 1) (by omega)
 have htl := times_len (r := r) (fun x hx => by
  have := hris.1 x (run_mem hmem hx)
  exact ⟨this.2.2.1, this.2.2.2⟩)
 refine ⟨⟨?_, ?_, ?_, by rw [hlast]; omega, by rw [hlast]; omega, ?_, ?_⟩, hgap⟩
 ·rw [htake, rbytes_snoc]
  simp only [bstep]
  rw [h.fx, h.fe]
  rfl
 ·rw [htake, rbytes_snoc]
  rfl
 ·rw [htake, List.flatten_append, List.length_append]
  simp only [List.length_append, List.flatten_cons, List.flatten_nil, List.append_nil]
  have := h.len
  omega
 ·constructor
  ·intro hh; rw [hlast] at hh; omega
  ·intro hh; omega
 ·intro r2 _ h2
  rw [show i + 1 - 1 = i by omega, hr] at h2
  injection h2 with h2
  rw [h2]
theorem RAt.done {l : List Ent} {X : List UInt8} {E : Int} (h : RAt (runs l) (runs l).length X E) : vbytes l = vput (runs l).length ++ X := by
 have h1 := h.fx
 rw [List.take_length] at h1
 unfold vbytes
 rw [h1]
end Go.Proofs.YtkejlnjnoiidnaaGreatDoor
end

section
namespace Go.Proofs.YtkejlnjnoiidnaaGreatDoor
open Go.RowKit As
theorem entInfo : (Tryz.prog.info? 79).map (fun i => (i.zero, i.size, i.bytes)) = some (some (.agg #[.int .i64 0, .int .i64 0]), 2, 16) := by kernel_rfl
abbrev entV (l : List Ent) : List Value := l.flatMap entCells
theorem entV_snoc {w : World} {base : Nat} {E : TypeId} {v : Value} {l : List Ent} {x : Ent} {n : Nat} (hn : l.length = n) (h : w.ownsRow base E 2 v (n + 1) (entV l ++ entCells x)) : w.ownsRow base E 2 v (l ++ [x]).length (entV (l ++ [x])) := by
 subst hn
 simpa [entV, List.flatMap_append] using h
theorem cells_ent (w : World) (a b : Value) (t : TypeId) : ∀ j u, ([a, b] : List Value)[j]? = some u → (w.alloc (.cells #[a, b] t)).cell? ((⟨w.heap.size, 0, none⟩ : Addr).add j) = some u := by
 intro j u hu
 have hadd : (⟨w.heap.size, 0, none⟩ : Addr).add j = ⟨w.heap.size, j, none⟩ := by unfold Addr.add; split <;> simp_all
 rw [hadd, World.cell?_alloc_new]
 simpa using hu
end Go.Proofs.YtkejlnjnoiidnaaGreatDoor
end
