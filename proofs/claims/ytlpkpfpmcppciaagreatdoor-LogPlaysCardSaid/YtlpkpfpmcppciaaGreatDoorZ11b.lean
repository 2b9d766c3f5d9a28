/- A walk over the store's map: which keys were met, and what was collected.

The library's functions at cells: the comparison, SortFunc, Clone. -/
import Derived.Test.YtlpkpfpmcppciaaGreatDoorZ9b
import Derived.Maps.RangeWalk
import Derived.Test.YtlpkpfpmcppciaaGreatDoorShelfStore
import Derived.WalkKit
section
namespace Go.Proofs.YtlpkpfpmcppciaaGreatDoor
set_option linter.unusedSimpArgs false
set_option linter.unusedVariables false
open Go.RowKit Go.Maps
theorem pm_key_inv {key : Value} {kl : Lit} (h : keyOf Tryz.prog 9 key = some kl) : ∃ x : ByteArray, key = .string x ∧ kl = lk x := by
 cases key <;> simp [keyOf, pm_str, mapKey] at h
 obtain ⟨_, rfl⟩ := h
 exact ⟨_, rfl, rfl⟩
theorem ptr_inv {v : Value} {y : DataW Unit × List MemPlace} (h : ptrElem v = some y) : ∃ c, v = ptrV c := by
 obtain ⟨d, ps⟩ := y
 rcases ptrElem_inv h with ⟨rfl, _⟩ | ⟨p, rfl, _⟩
 ·exact ⟨none, rfl⟩
 ·exact ⟨some p, rfl⟩
theorem same_lk (j k : ByteArray) : (lk j).sameKey (lk k) = decide (j = k) := by
 by_cases h : j = k
 ·subst h
  simp [lk, Lit.sameKey]
 ·have : ¬ j.data.toList = k.data.toList := fun e => h (by
   cases j; cases k
   simp only [ByteArray.mk.injEq]
   exact Array.ext' e)
  simp only [lk, Lit.sameKey, h, decide_false]
  exact beq_eq_false_iff_ne.2 this
/-- The full cells of keys. -/
def fullOf (f : Sto) (ks : List ByteArray) : List (ByteArray × Cel) := ks.filterMap fun k => (f k).bind fun c => if c.full = true then some (k, c) else none
theorem fullOf_yes {f : Sto} {ks : List ByteArray} {k : ByteArray} {c : Cel} (h : f k = some c) (hc : c.full = true) : fullOf f (ks ++ [k]) = fullOf f ks ++ [(k, c)] := by simp [fullOf, h, hc]
theorem fullOf_no {f : Sto} {ks : List ByteArray} {k : ByteArray} {c : Cel} (h : f k = some c) (hc : c.full = false) : fullOf f (ks ++ [k]) = fullOf f ks := by simp [fullOf, h, hc]
theorem fullOf_mem {f : Sto} {ks : List ByteArray} {k : ByteArray} {c : Cel} : (k, c) ∈ fullOf f ks ↔ k ∈ ks ∧ f k = some c ∧ c.full = true := by
 unfold fullOf
 rw [List.mem_filterMap]
 constructor
 ·rintro ⟨j, hj, e⟩
  obtain ⟨d, hd, e⟩ := Option.bind_eq_some_iff.1 e
  by_cases hf : d.full = true
  ·rw [if_pos hf] at e
   injection e with e
   injection e with e1 e2
   subst e1 e2
   exact ⟨hj, hd, hf⟩
  ·rw [if_neg hf] at e
   cases e
 ·rintro ⟨hk, hf, hc⟩
  exact ⟨k, hk, by simp [hf, hc]⟩
theorem fullOf_keys (f : Sto) : ∀ ks : List ByteArray, ((fullOf f ks).map (·.1)).Sublist ks
 | [] => .slnil
 | k :: ks => by
  have ih := fullOf_keys f ks
  unfold fullOf at ih ⊢
  rw [List.filterMap_cons]
  cases h : ((f k).bind fun c => if c.full = true then some (k, c) else none) with
  | none => exact ih.cons k
  | some q =>
   obtain ⟨j, c⟩ := q
   obtain ⟨d, hd, e⟩ := Option.bind_eq_some_iff.1 h
   by_cases hf : d.full = true
   ·rw [if_pos hf] at e
    injection e with e
    injection e with e1 e2
    subst e1 e2
    exact ih.cons_cons k
   ·rw [if_neg hf] at e
    cases e
theorem fullOf_len (f : Sto) (ks : List ByteArray) : (fullOf f ks).length ≤ ks.length := by
 have := (fullOf_keys f ks).length_le
 simpa using this
structure Seen (fp : FP) (left : Lit → Bool) (ks : List ByteArray) (L : List CelX) (S cnt : Nat) : Prop where
 nd : ks.Nodup
 left : ∀ k, left (lk k) = ((fp k).isSome && !decide (k ∈ ks))
 cut : L.map cutX = fullOf fp.sto ks
 len : ks.length + cnt ≤ S
theorem Seen.le {fp : FP} {left : Lit → Bool} {ks : List ByteArray} {L : List CelX} {S cnt : Nat} (h : Seen fp left ks L S cnt) : L.length + cnt ≤ S := by
 have h1 := congrArg List.length h.cut
 have h2 := fullOf_len fp.sto ks
 have h3 := h.len
 simp at h1
 omega
theorem Seen.start {fp : FP} {D : DataW Unit} (hd : PtrIs D fp.pl) : Seen fp (Maps.has D) [] [] (Maps.size D) (Maps.size D) := by
 refine ⟨List.nodup_nil, fun k => ?_, rfl, by simp⟩
 cases h : fp k with
 | none => rw [hd.no k (by unfold FP.pl; rw [h]; rfl)]; simp
 | some q => rw [(hd.yes k q.1 (by unfold FP.pl; rw [h]; rfl)).1]; simp
section
variable {fp : FP} {left : Lit → Bool} {ks : List ByteArray} {L : List CelX} {S cnt cnt' : Nat} {x : ByteArray}
theorem Seen.there (h : Seen fp left ks L S cnt) (hl : left (lk x) = true) : ∃ p X, fp x = some (p, X) := by
 rw [h.left x] at hl
 cases hf : fp x with
 | none => rw [hf] at hl; simp at hl
 | some q => exact ⟨q.1, q.2, rfl⟩
theorem Seen.step0 (h : Seen fp left ks L S cnt) (hl : left (lk x) = true) (hc : cnt' < cnt) : (ks ++ [x]).Nodup ∧ (∀ k, (left (lk k) && !(lk k).sameKey (lk x)) = ((fp k).isSome && !decide (k ∈ ks ++ [x]))) ∧ (ks ++ [x]).length + cnt' ≤ S := by
 have hnew : x ∉ ks := fun hx => by rw [h.left x] at hl; simp [hx] at hl
 refine ⟨List.nodup_append.2 ⟨h.nd, by simp, fun a ha b hb => by simp at hb; subst hb; exact fun e => hnew (e ▸ ha)⟩, fun k => ?_, ?_⟩
 ·rw [h.left k, same_lk]
  by_cases hk : k = x
  ·subst hk; simp
  ·simp [hk]
 ·have := h.len
  simp only [List.length_append, List.length_cons, List.length_nil]
  omega
theorem Seen.yes (h : Seen fp left ks L S cnt) (hl : left (lk x) = true) (hc : cnt' < cnt) {Y : CelX} (hs : fp.sto x = some Y.2.1) (hY : Y.1 = x) (hf : Y.2.1.full = true) : Seen fp (fun z => left z && !z.sameKey (lk x)) (ks ++ [x]) (L ++ [Y]) S cnt' := by
 obtain ⟨a, b, c⟩ := h.step0 hl hc
 refine ⟨a, b, ?_, c⟩
 rw [fullOf_yes hs hf, List.map_append, h.cut]
 simp only [List.map_cons, List.map_nil, cutX, hY]
theorem Seen.no (h : Seen fp left ks L S cnt) (hl : left (lk x) = true) (hc : cnt' < cnt) {c : Cel} (hs : fp.sto x = some c) (hf : c.full = false) : Seen fp (fun z => left z && !z.sameKey (lk x)) (ks ++ [x]) L S cnt' := by
 obtain ⟨a, b, d⟩ := h.step0 hl hc
 exact ⟨a, b, by rw [fullOf_no hs hf]; exact h.cut, d⟩
end
/-- All full cells, sorted by keys. -/
structure OutOf (f : Sto) (o : List (ByteArray × Cel)) : Prop where
 sorted : o.Pairwise fun a b => ¬ kcmp b.1 a.1 < 0
 nodup : (o.map (·.1)).Nodup
 mem : ∀ k c, (k, c) ∈ o ↔ f k = some c ∧ c.full = true
theorem OutOf.isOut {l : List Wr} {o : List (ByteArray × Cel)} (h : OutOf (stoOf l) o) : IsOut l o := isOut_of h.sorted h.nodup h.mem
theorem Seen.out {fp : FP} {left : Lit → Bool} {ks : List ByteArray} {L L' : List CelX} {S cnt : Nat} (h : Seen fp left ks L S cnt) (hl : ∀ kl, left kl = false) (hp : L'.Perm L) (hs : L'.Pairwise fun a b => ltOf cmpX b a = false) : OutOf fp.sto (L'.map cutX) := by
 have hp' : (L'.map cutX).Perm (fullOf fp.sto ks) := h.cut ▸ hp.map cutX
 refine ⟨?_, ?_, fun k c => ?_⟩
 ·rw [List.pairwise_map]
  refine hs.imp fun {a b} hab => ?_
  unfold ltOf cmpX at hab
  exact of_decide_eq_false hab
 ·exact ((hp'.map (·.1)).nodup_iff).2 (h.nd.sublist (fullOf_keys fp.sto ks))
 ·rw [hp'.mem_iff, fullOf_mem]
  refine ⟨fun ⟨_, q⟩ => q, fun q => ⟨?_, q⟩⟩
  have := h.left k
  rw [hl] at this
  have hsome : (fp k).isSome = true := by
   have q1 := q.1
   unfold FP.sto at q1
   cases hf : fp k with
   | none => rw [hf] at q1; cases q1
   | some r => rfl
  rw [hsome] at this
  simpa using this.symm
end Go.Proofs.YtlpkpfpmcppciaaGreatDoor
end

section
namespace Go.Proofs.YtlpkpfpmcppciaaGreatDoor
set_option linter.unusedSimpArgs false
set_option linter.unusedVariables false
open Go.RowKit
theorem grow_grow2 (w : World) (o o' : Obj) : (w.alloc o).alloc o' = Go.Sort.grow (w.drewN 0) #[o, o'] := by
 rw [Go.Sort.alloc_eq_grow, Go.Sort.alloc_eq_grow, Go.Sort.grow_grow]
 rfl
set_option maxHeartbeats 1000000 in
set_option maxRecDepth 100000 in
theorem scmp_any (x y : CelX) (W : World) : Calls Tryz.prog 42 #[.agg (celV x).toArray, .agg (celV y).toArray] W fun e w' => e = .returned (.int .i64 (cmpX x y)) ∧ ∃ q os', w' = Go.Sort.grow (W.drewN q) os' := by
 have hcon := fun W' => Tryz.strings_Compare x.1 y.1 W'
 change ∀ W', Calls Tryz.prog 43 _ _ _ at hcon
 have HC : Hid (Lib.compareBytes x.1.data.toList y.1.data.toList = cmpX x y) := Lib.hid rfl
 rw [HC.out] at hcon
 generalize cmpX x y = r at *
 clear HC
 unfold celV CelX.lv
 go_enter Tryz.func42, Tryz.ntmps42
 go_wp2_with (go_at_call 43; refine (hcon _).mono ?_; rintro e w' ⟨rfl, rfl⟩)
 go_ret
 exact ⟨rfl, 0, _, grow_grow2 _ _ _⟩
set_option maxRecDepth 100000 in
theorem ssort_any {w : World} {B : Nat} {v : Value} {L : List CelX} (ho : w.ownsRow B 90 5 v L.length (L.flatMap celV)) (hl : L.length < 4611686018427387904) :
  Calls Tryz.prog 41 #[v, .func (.func 42) #[] #[]] w fun e w' => e = .returned (.tuple #[]) ∧ ∃ L' : List CelX, L'.Perm L ∧ (L'.Pairwise fun a b => ltOf cmpX b a = false) ∧ w'.ownsRow B 90 5 v L'.length (L'.flatMap celV) ∧ Turned (fun i => v.ownBlock = some i) w w' := by
 rcases ho.2 with ⟨rfl, h0⟩ | ⟨g, cap, cur, rfl, hb, hg, _⟩
 ·have hL : L = [] := List.eq_nil_of_length_eq_zero h0
  subst hL
  refine (Tryz.slices_SortFunc_none none 0 _ w).mono ?_
  rintro e w' ⟨rfl, rfl⟩
  exact ⟨rfl, [], .refl _, .nil, ho, .refl _ _⟩
 ·have hgl : g < w.heap.size := (Array.getElem?_eq_some_iff.1 hg).1
  have hsz : L.toArray.size = L.length := by simp
  have eg : ∀ args w, (callFunc 42 args).run Tryz.prog w = .ok (.enter 42 args) w := enters_of Tryz.func42 (by kernel_rfl) rfl
  have h := Tryz.slices_SortFunc (α := CelX) 5 (fun _ => by kernel_rfl) (fun _ => by kernel_rfl) celV celV_len celV_one cmpX swoX 42 #[] g 0 cap L.toArray w eg (fun _ _ _ _ x y => scmp_any x y _) (holdsK_own celV_len ho) hgl (by rw [hsz]; exact hl)
  rw [hsz] at h
  refine h.mono ?_
  rintro e w' ⟨rfl, d', q, os, hp, hs, rfl⟩
  have hp' := permIn_list (d := L.toArray) (by rw [hsz]; exact hp)
  simp only at hp'
  have hlen : d'.toList.length = L.length := hp'.length_eq
  refine ⟨rfl, d'.toList, hp', sortedIn_list (by simpa using hlen.symm) hs, ?_, ?_⟩
  ·have := own_sortedK (q := q) (os := os) celV_len (L' := d'.toList) hlen ho
   rw [hlen]
   simpa using this
  ·refine (turned_sortedK celV 5 w g q d' os).mono fun i hi => ?_
   rw [hi]
   rfl
set_option maxRecDepth 100000 in
theorem clone_any {w : World} {B : Nat} {x : CelX} (h : LstOk w B x) (hl : x.2.1.list.length * 16 ≤ 140737488355328) :
  Calls Tryz.prog 40 #[x.lv] w fun e w' => ∃ A n c, e = .returned (.slice A n c) ∧ LstOk w' w.heap.size (x.1, x.2.1, A, n, c) ∧ Below w.heap.size w w' := by
 rcases h.1.2 with ⟨e, h0⟩ | ⟨g, cap, cur, e, hb, hg, _⟩
 ·rw [e]
  refine (Tryz.slices_Clone_string_nil 0 0 w).mono ?_
  rintro r w' ⟨rfl, rfl⟩
  have hL := List.eq_nil_of_length_eq_zero h0
  refine ⟨none, 0, 0, rfl, ⟨?_, fun _ => rfl⟩, .refl _ _⟩
  show World.ownsRow _ _ _ _ (.slice none 0 0) x.2.1.list.length (strsV x.2.1.list)
  rw [hL]
  exact World.ownsRow_nil _ _ _ _
 ·have ho := h.1
  rw [e] at ho ⊢
  refine (Tryz.slices_Clone_string g 0 x.2.1.list.length cap x.2.1.list w (Nat.le_refl _) hl ?_).mono ?_
  ·intro j hj
   rw [Nat.zero_add, ho.cellAt j (by omega)]
   unfold strsV
   rw [List.getElem?_map, List.getElem?_eq_getElem hj, List.getD_eq_getElem?_getD, List.getElem?_eq_getElem hj]
   rfl
  ·rintro r w' ⟨v', rfl, ho', hne, hb'⟩
   rw [List.take_of_length_le (Nat.le_refl _)] at ho'
   rcases ho'.2 with ⟨e', _⟩ | ⟨g', cap', cur', e', _⟩
   ·exact absurd e' hne
   ·subst e'
    refine ⟨_, _, _, rfl, ⟨ho', fun hL => ?_⟩, hb'⟩
    have := h.2 hL
    rw [e] at this
    injection this with this
    cases this
end Go.Proofs.YtlpkpfpmcppciaaGreatDoor
end
