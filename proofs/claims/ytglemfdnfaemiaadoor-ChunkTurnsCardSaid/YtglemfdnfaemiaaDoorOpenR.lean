/- Arguments opened with the form's own reach: no string and no slice of more than 2^47 bytes. Any program. -/
import Derived.Test.YtglemfdnfaemiaaDoorOpen
import Derived.SizedLaws
namespace Go.Proofs.YtglemfdnfaemiaaDoor
open Go.ChangeShapes Go.WideShapes Go.ChangeAt Go.RowKit
/-- The reach: 2^47 - 4096 bytes. -/
def Small {H : Type} (P : Program) (t : TypeId) (d : DataW H) : Prop := ∀ n ∈ d.weights P t, n ≤ 140737488351232
theorem small_each {H : Type} {P : Program} {ts : List TypeId} {ds : List (DataW H)} (h : (DataW.weightsEach P ts ds).all (· ≤ reachBytes) = true) {j : Nat} {t : TypeId} {d : DataW H} (ht : ts[j]? = some t) (hd : ds[j]? = some d) : Small P t d := by
  intro n hn
  have := List.all_eq_true.1 h _ (DataW.weights_mem_each ht hd n hn)
  have := of_decide_eq_true this
  unfold reachBytes at this
  omega
section
variable {H : Type} {enc : TypeId × Value → H} {P : Program} {w : World} {base : Nat} {spare : Nat → Bool} {held : Bool}
theorem weightsAll_mem {e : TypeId} : ∀ {l : List (DataW H)} {d : DataW H}, d ∈ l → ∀ n ∈ d.weights P e, n ∈ DataW.weightsAll P e l
  | x :: l, d, h, n, hn => by
    simp only [DataW.weightsAll, List.mem_append]
    rcases List.mem_cons.1 h with rfl | h
    · exact .inl hn
    · exact .inr (weightsAll_mem h n hn)
theorem small_elem {t e : TypeId} {elems sp : List (DataW H)} {d : DataW H} (ht : P.underlying t = some (.slice e)) (h : Small P t (.slice elems sp)) (hd : d ∈ elems ∨ d ∈ sp) : Small P e d := by
  intro n hn
  apply h
  simp only [DataW.weights, ht, List.mem_cons, List.mem_append]
  rcases hd with hd | hd
  · exact .inr (.inl (weightsAll_mem hd n hn))
  · exact .inr (.inr (weightsAll_mem hd n hn))
theorem small_len {t e : TypeId} {elems sp : List (DataW H)} (ht : P.underlying t = some (.slice e)) (h : Small P t (.slice elems sp)) : elems.length * P.bytesOf e ≤ 140737488351232 := by
  have := h ((elems.length + sp.length) * P.bytesOf e) (by simp only [DataW.weights, ht, List.mem_cons, true_or])
  refine Nat.le_trans (Nat.mul_le_mul_right _ (by omega)) this
theorem small_string {t : TypeId} {l : List UInt8} (h : Small (H := H) P t (.lit (.string l))) : l.length ≤ 140737488351232 := h _ (by simp [DataW.weights])
theorem str_small {t : TypeId} {s : ByteArray} (h : Small (H := H) P t (.lit (.string s.data.toList))) : s.size ≤ 140737488351232 := by
  have := small_string h
  simpa using this
theorem open_cells_r {α : Type} (f : α → List Value) (k : Nat) (hk0 : 0 < k) (hf : ∀ x, (f x).length = k) (ok : α → Prop) {t e fuel : Nat} {cs : List Value} {y : DataW H × List MemPlace} (by_ : Nat)
    (ht : P.underlying t = some (.slice e)) (hk : P.cellsOf e = k) (hby : P.bytesOf e = by_) (hsm : Small P t y.1)
    (helem : ∀ (cs : List Value) (m : Nat) (y : DataW H × List MemPlace), DataW.trod enc P w base spare held m e cs = some y → Small P e y.1 → ∃ x, cs = f x ∧ ok x)
    (hfu : DataW.trod enc P w base spare held fuel t cs = some y) :
    ∃ (A : Option Addr) (n c : Nat) (l : List α), cs = [.slice A n c] ∧ n * by_ ≤ 140737488351232 ∧ l.length = n ∧ Sl w w.heap.size k A n (l.flatMap f) ∧ ∀ x ∈ l, ok x := by
  rcases Go.Deep.open_slice ht hfu with ⟨hcs, _⟩ | ⟨a, n, c, m, n', D, Pl, hcs, _, hl, hm, hmm, hy, hi⟩
  · exact ⟨none, 0, 0, [], hcs, by simp, rfl, Sl.nil, fun x hx => by simp at hx⟩
  · have hlm : n ≤ m := by rw [hmm]; split <;> omega
    subst hy
    have hb := small_len ht hsm
    rw [List.length_map, List.length_range, hby] at hb
    obtain ⟨l, hll, hP⟩ := exists_list n (fun i x => (∀ j, j < k → w.cell? (a.add (i * k + j)) = (f x)[j]?) ∧ ok x) (fun i him => by
      obtain ⟨cs', hc, ht'⟩ := hi i (by omega)
      obtain ⟨x, rfl, hx⟩ := helem cs' n' _ ht' (small_elem ht hsm (.inl (List.mem_map.2 ⟨i, List.mem_range.2 him, rfl⟩)))
      obtain ⟨_, hcl, hat⟩ := World.cells?_some hc
      rw [hk] at hat
      exact ⟨x, fun j hj => by rw [← Go.Deep.add_add]; exact hat j hj, hx⟩)
    refine ⟨some a, n, c, l, hcs, hb, hll, ⟨by rw [flat_len f k hf, hll], fun hn => ?_⟩, fun x hx => ?_⟩
    · have h0 := (hP 0 _ (List.getElem?_eq_getElem (by omega : 0 < l.length))).1 0 hk0
      rw [List.getElem?_eq_getElem (by rw [hf]; exact hk0)] at h0
      have hspot := World.cell?_spot h0
      obtain ⟨b, o, sp⟩ := a
      have hsp : sp = none := by simpa [Addr.add] using hspot
      subst hsp
      have hadd : ∀ j, (⟨b, o, none⟩ : Addr).add j = ⟨b, o + j, none⟩ := fun j => by unfold Addr.add; split <;> simp_all
      refine ⟨b, o, rfl, ?_, fun j u hu => ?_⟩
      · have := cell_lt h0
        rw [hadd] at this
        exact this
      · obtain ⟨i, j', x, rfl, hj', hx, hu'⟩ := flat_at f k hf l j u hu
        have := (hP i x hx).1 j' hj'
        rw [hadd] at this
        rw [this, hu']
    · obtain ⟨i, hi', rfl⟩ := List.mem_iff_getElem.1 hx
      exact (hP i _ (List.getElem?_eq_getElem hi')).2
theorem open_elems_r {α : Type} (f : α → List Value) (k : Nat) (hk0 : 0 < k) (hf : ∀ x, (f x).length = k) (ok : α → Prop) {r : Reach} {b0 : Nat} {t e : TypeId} {v : Value} {d : DataW H} {p : List MemPlace} (by_ : Nat)
    (ht : P.underlying t = some (.slice e)) (hk : P.cellsOf e = k) (hby : P.bytesOf e = by_) (hsm : Small P t d)
    (helem : ∀ (cs : List Value) (m : Nat) (y : DataW H × List MemPlace), DataW.trod enc P w base spare held m e cs = some y → Small P e y.1 → ∃ x, cs = f x ∧ ok x)
    (hv : Value.okWide P w r b0 t v) (h : DataW.Trod enc P w base spare held t v d p) :
    ∃ (A : Option Addr) (n c : Nat) (l : List α), v = .slice A n c ∧ n * by_ ≤ 140737488351232 ∧ l.length = n ∧ Sl w w.heap.size k A n (l.flatMap f) ∧ ∀ x ∈ l, ok x := by
  obtain ⟨A, n, c, rfl⟩ := okWide_slice ht hv
  obtain ⟨fuel, hfu⟩ := h
  obtain ⟨A', n', c', l, hcs, r⟩ := open_cells_r f k hk0 hf ok by_ ht hk hby hsm helem hfu
  simp [Value.cells] at hcs
  obtain ⟨rfl, rfl, rfl⟩ := hcs
  exact ⟨A, n, c, l, rfl, r⟩
/-- What a struct's reading says of all its fields, with the reach. -/
def FieldedR (P : Program) (w : World) (base : Nat) (spare : Nat → Bool) (held : Bool) (enc : TypeId × Value → H) (fs : Array Field) (cs : List Value) : Prop :=
  ∃ m, ∀ (i : Nat) (f : Field), fs[i]? = some f → ∃ y, DataW.trod enc P w base spare held m f.type ((cs.drop f.offset).take (P.cellsOf f.type)) = some y ∧ Small P f.type y.1
theorem fielded_r {t : TypeId} {fs : Array Field} {m : Nat} {cs : List Value} {x : DataW H × List MemPlace} (ht : P.underlying t = some (.struct fs)) (h : DataW.trod enc P w base spare held m t cs = some x) (hsm : Small P t x.1) :
    cs.length = P.cellsOf t ∧ FieldedR P w base spare held enc fs cs := by
  obtain ⟨xs, n, _, rfl, hcl, hlen, hg⟩ := DataW.trod_struct ht h
  refine ⟨hcl, n, fun i f hf => ?_⟩
  obtain ⟨y, hy⟩ := field1 hlen hg i f hf
  refine ⟨y, hy, fun k hk => hsm k ?_⟩
  simp only [DataW.weights, ht]
  have hi : xs[i]? = some y := by rw [← hg i f hf]; exact hy
  exact DataW.weights_mem_each (j := i) (t := f.type) (d := y.1) (by rw [List.getElem?_map, Array.getElem?_toList, hf]; rfl) (by rw [List.getElem?_map, hi]; rfl) k hk
theorem FieldedR.all {fs : Array Field} {cs : List Value} (h : FieldedR P w base spare held enc fs cs) : Fielded P w base spare held enc fs cs := by
  obtain ⟨m, hg⟩ := h
  exact ⟨m, fun i f hf => by obtain ⟨y, hy, _⟩ := hg i f hf; exact ⟨y, hy⟩⟩
theorem field_sub_r {fs : Array Field} {cs : List Value} (h : FieldedR P w base spare held enc fs cs) (i o T k : Nat) {f : Field} (hf : fs[i]? = some f) (hT : f.type = T) (ho : f.offset = o) (hc : P.cellsOf T = k) :
    ∃ m y, DataW.trod enc P w base spare held m T ((cs.drop o).take k) = some y ∧ Small P T y.1 := by
  obtain ⟨m, hg⟩ := h
  obtain ⟨y, hy, hs⟩ := hg i f hf
  subst hT ho hc
  exact ⟨m, y, hy, hs⟩
theorem field_string_r {fs : Array Field} {cs : List Value} (h : FieldedR P w base spare held enc fs cs) (i o T : Nat) {f : Field} (hf : fs[i]? = some f) (hT : f.type = T) (ho : f.offset = o) (hu : P.underlying T = some .string) (hc : P.cellsOf T = 1) :
    ∃ s : ByteArray, cs[o]? = some (.string s) ∧ s.size ≤ 140737488351232 := by
  obtain ⟨m, y, hy, hs⟩ := field_sub_r h i o T 1 hf hT ho hc
  obtain ⟨n, e, rfl, wn⟩ := DataW.trod_string hu hy
  refine ⟨n, take1 e, ?_⟩
  have := small_string hs
  simpa using this
end
end Go.Proofs.YtglemfdnfaemiaaDoor
