/- Plain facts on tables of keys: each key once, and of each which one it is. No program in sight. -/
import Derived.Test.YtkejlnjnoiidnaaGreatDoorZ1
import Derived.Maps.Own
import Derived.Maps.OwnOps
import Derived.Maps.OwnSet
import Derived.Maps.Views
import Derived.Test.YtkejlnjnoiidnaaGreatDoorZ5
import Derived.Test.YtkejlnjnoiidnaaGreatDoorZ6
import Derived.Test.YtkejlnjnoiidnaaGreatDoorZ2
import Derived.Test.YtkejlnjnoiidnaaGreatDoorZ4
import Derived.Deep.Light
set_option linter.unusedSimpArgs false
set_option linter.unusedVariables false
section
namespace Go.Proofs.YtkejlnjnoiidnaaGreatDoor.Keys
open Go.RowKit Go.Maps
abbrev Tab := List ByteArray × List Int
def step (t : Tab) (s : ByteArray) : Tab := if s ∈ t.1 then (t.1, t.2 ++ [(t.1.idxOf s : Int)]) else (t.1 ++ [s], t.2 ++ [(t.1.length : Int)])
def tab (l : List ByteArray) : Tab := l.foldl step ([], [])
theorem zrj (l : List ByteArray) (s : ByteArray) : tab (l ++ [s]) = step (tab l) s := by simp [tab, List.foldl_append]
theorem zld {t : Tab} {s : ByteArray} (h : s ∈ t.1) : step t s = (t.1, t.2 ++ [(t.1.idxOf s : Int)]) := by unfold step; rw [if_pos h]
theorem zka {t : Tab} {s : ByteArray} (h : ¬ s ∈ t.1) : step t s = (t.1 ++ [s], t.2 ++ [(t.1.length : Int)]) := by unfold step; rw [if_neg h]
theorem zwr (l : List ByteArray) (k : Nat) (s : ByteArray) (h : l[k]? = some s) : tab (l.take (k + 1)) = step (tab (l.take k)) s := by
 have hk : k < l.length := (List.getElem?_eq_some_iff.1 h).1;rw [List.take_succ_eq_append_getElem hk, zrj];rw [List.getElem?_eq_getElem hk] at h;injection h with h
 rw [h]
theorem zkl (l : List ByteArray) : (tab l).1.length ≤ l.length ∧ (tab l).2.length = l.length ∧ (tab l).1.Nodup ∧ ∀ s ∈ (tab l).1, s ∈ l := by
 suffices h : ∀ r : List ByteArray, (tab r.reverse).1.length ≤ r.length ∧ (tab r.reverse).2.length = r.length ∧ (tab r.reverse).1.Nodup ∧ ∀ s ∈ (tab r.reverse).1, s ∈ r by
  have := h l.reverse;simpa using this
 intro r;induction r with
 | nil => exact ⟨Nat.le_refl _, rfl, List.nodup_nil, fun s hs => by simp [tab] at hs⟩
 | cons s r ih =>
  obtain ⟨h1, h2, h3, h4⟩ := ih;rw [List.reverse_cons, zrj];by_cases hs : s ∈ (tab r.reverse).1
  ·rw [zld hs];exact ⟨by simp; omega, by simp [h2], h3, fun x hx => by simp [h4 x hx]⟩
  ·rw [zka hs];refine ⟨by simp; omega, by simp [h2], ?_, fun x hx => ?_⟩
   ·rw [List.nodup_append];exact ⟨h3, by simp, fun a ha b hb => by simp at hb; subst hb; rintro rfl; exact hs ha⟩
   ·simp at hx;rcases hx with hx | rfl
    ·simp [h4 x hx]
    ·simp
def Tied (D : DataW Unit) (T : List ByteArray) : Prop := ∀ s : ByteArray, Maps.has D (.string s.data.toList) = decide (s ∈ T) ∧ (s ∈ T → D.atKey (.string s.data.toList) (.lit (.int .i64 0)) = .lit (.int .i64 (T.idxOf s : Int)))
theorem yjg {s t : ByteArray} (h : ¬ s = t) : Lit.string s.data.toList ≠ Lit.string t.data.toList := by
 intro e;apply h;injection e with e
 obtain ⟨⟨a⟩⟩ := s;obtain ⟨⟨b⟩⟩ := t;simp at e;rw [e]
theorem Tied.nil : Tied (.map []) [] := fun s => ⟨by simp [Maps.has], fun h => by simp at h⟩
theorem Tied.put {D : DataW Unit} {T : List ByteArray} {s : ByteArray} (h : Tied D T) (hD : IsMap D) (hs : ¬ s ∈ T) : Tied (D.put (.string s.data.toList) (.lit (.int .i64 (T.length : Int)))) (T ++ [s]) := by
 intro x;by_cases hx : x = s
 ·subst hx;refine ⟨?_, fun _ => ?_⟩
  ·rw [has_put_same hD (by simp [WideAt.IsKeyLit])];simp
  ·rw [atKey_put_same hD (by simp [WideAt.IsKeyLit])];rw [List.idxOf_append, if_neg hs];simp
 ·refine ⟨?_, fun hm => ?_⟩
  ·rw [has_put_other (yjg hx), (h x).1];simp [hx]
  ·rw [atKey_put_other (yjg hx)];have hm' : x ∈ T := by simpa [hx] using hm
   rw [(h x).2 hm', List.idxOf_append, if_pos hm']
end Go.Proofs.YtkejlnjnoiidnaaGreatDoor.Keys
end

section
namespace Go.Proofs.YtkejlnjnoiidnaaGreatDoor
def placeOf : List Ent → Int → Nat
 | [], _ => 0
 | (r, _) :: l, x => if r = x then 0 else placeOf l x + 1
def zbz (h : List Ent) (at_ : List Int) : List Wr → Nat → Int → List UInt8
 | [], _, _ => []
 | w :: l, i, time => [UInt8.ofNat w.2.2.1.toNat] ++ vput (w.1 - time).toNat ++ vput (placeOf h w.2.1) ++ vput (at_.getD i 0).toNat ++ (zfn w).data.toList ++ zbz h at_ l (i + 1) w.1
def keysOf (l : List Wr) : List ByteArray := l.map fun w => w.2.2.2.1
def zew (f h : List Ent) (l : List Wr) : List UInt8 :=
 zbt f ++ zbt h ++ vput (Keys.tab (keysOf l)).1.length ++ ((Keys.tab (keysOf l)).1.flatMap fun k => vput k.size ++ k.data.toList) ++ vput l.length ++ zbz h (Keys.tab (keysOf l)).2 l 0 0
def zcb (f h : List Ent) (l : List Wr) : ByteArray × Int × Int :=
 if (zbd f h l).1 ≠ 0 then (strOf [], zbd f h l) else if 20000 < (zew f h l).length then (strOf [], 4, -1) else (strOf (zew f h l), 0, -1)
end Go.Proofs.YtkejlnjnoiidnaaGreatDoor
end

section
namespace Go.Proofs.YtkejlnjnoiidnaaGreatDoor
def zee (l : List Ent) (k m : Nat) : List Ent := (l.drop k).take m
structure WAt (l : List Ent) (k : Nat) (X : List UInt8) (q : Nat) (e : Int) : Prop where
 fx : (ziv (runs (l.take k))).1 = X
 fq : (runs (l.take k)).length = q
 fe : (ziv (runs (l.take k))).2 + 1 = e
 brk : Brk l k
 len : X.length ≤ 40 * k
 lo : 0 ≤ e
 hi : e ≤ 201
 zero : k = 0 ↔ e = 0
theorem WAt.new (l : List Ent) : WAt l 0 [] 0 0 := ⟨rfl, rfl, rfl, .inl rfl, by simp, by omega, by omega, by simp⟩
theorem zjw {l : List Ent} {k m j : Nat} (h : j < m) : (zee l k m)[j]? = l[k + j]? := by
 unfold zee;rw [List.getElem?_take_of_lt h, List.getElem?_drop]
theorem zth {l : List Ent} {k m : Nat} (h : k + m ≤ l.length) : (zee l k m).length = m := by
 unfold zee;rw [List.length_take, List.length_drop]; omega
theorem zwy {l : List Ent} {k m : Nat} : l.take (k + m) = l.take k ++ zee l k m := by
 unfold zee;rw [List.take_add]
theorem zjl {r : List Ent} (h : ∀ x ∈ r, 1 ≤ x.2 ∧ x.2 ≤ 1099511627776) : (times r).length ≤ 10 * r.length := by
 induction r with
 | nil => simp [times]
 | cons x r ih =>
  have h1 := ih fun y hy => h y (by simp [hy])
  have h2 := h x (by simp);have h3 := zae (n := x.2.toNat) (by omega);unfold times at h1 ⊢;simp only [List.flatMap_cons, List.length_append, List.length_cons];omega
theorem WAt.next {l : List Ent} {k m : Nat} {X : List UInt8} {q : Nat} {e r t : Int} (h : WAt l k X q e) (hl : zgs 0 l) (hk : l[k]? = some (r, t)) (hm : 0 < m) (hkm : k + m ≤ l.length)
  (hc : ∀ j x, j < m → l[k + j]? = some x → x.1 = r + j) (hb : ∀ y, l[k + m]? = some y → y.1 ≠ r + m) :
  WAt l (k + m) (X ++ (vput (if k = 0 then r - e else r - e - 1).toNat ++ vput (m - 1) ++ times (zee l k m))) (q + 1) (r + m) ∧ 0 ≤ (if k = 0 then r - e else r - e - 1) ∧ (if k = 0 then r - e else r - e - 1) ≤ 200 := by
 have hlen := zth hkm;have h0 : (zee l k m)[0]? = some (r, t) := by rw [zjw hm]; exact hk
 have hmem : (r, t) ∈ l := List.mem_of_getElem? hk;have hr := hl.1 _ hmem;simp only at hr;have hchain : Chain (zee l k m) := by
  intro j x y hx hy;have hj : j + 1 < m := by have := (List.getElem?_eq_some_iff.1 hy).1; omega
  rw [zjw (by omega)] at hx hy;have h1 := hc j x (by omega) hx;have h2 := hc (j + 1) y hj hy;omega
 have hrun : runs (l.take (k + m)) = runs (l.take k) ++ [zee l k m] := by
  have hg := yem (l.take k) (zee l k m) m ?_ hchain hm (by omega)
  ·rw [List.take_of_length_le (i := m) (l := zee l k m) (by omega)] at hg;rw [zwy]; exact hg
  ·rw [← zwy, List.length_take, Nat.min_eq_left (by omega)];rcases h.brk with h' | ⟨x, hx, hy⟩
   ·exact .inl h'
   ·by_cases hk0 : k = 0
    ·exact .inl hk0
    ·refine .inr ⟨x, ?_, fun y hyy => hy y ?_⟩
     ·rw [List.getElem?_take_of_lt (by omega)]; exact hx
     ·rw [List.getElem?_take_of_lt (by omega)] at hyy; exact hyy
 have hlast : ((zee l k m).getLast?.getD (0, 0)).1 = r + m - 1 := by
  rw [List.getLast?_eq_getElem?, hlen];have hx : (zee l k m)[m - 1]? = some (zee l k m)[m - 1] := List.getElem?_eq_getElem (by omega);rw [hx];rw [zjw (by omega)] at hx;have := hc (m - 1) _ (by omega) hx;simp only [Option.getD_some];rw [this]; omega
 have hhead : ((zee l k m).head?.getD (0, 0)).1 = r := by
  rw [List.head?_eq_getElem?, h0]; rfl
 have hend : (l[k + m - 1]?).map (·.1) = some (r + m - 1) := by
  have hx : l[k + (m - 1)]? = some l[k + (m - 1)] := List.getElem?_eq_getElem (by omega);have := hc (m - 1) _ (by omega) hx;rw [show k + m - 1 = k + (m - 1) by omega, hx, Option.map_some, this];congr 1; omega
 have hbound : r + m - 1 ≤ 200 := by
  have hx : l[k + (m - 1)]? = some l[k + (m - 1)] := List.getElem?_eq_getElem (by omega);have h1 := hc (m - 1) _ (by omega) hx;have h2 := (hl.1 _ (List.mem_of_getElem? hx)).2.1;omega
 have he := h.fe;have hz := h.zero;have hlo := h.lo;have hgap : (if (ziv (runs (l.take k))).2 < 0 then r else r - (ziv (runs (l.take k))).2 - 2) = (if k = 0 then r - e else r - e - 1) := by
  by_cases hk0 : k = 0
  ·have := hz.1 hk0;rw [if_pos hk0, if_pos (by omega)]; omega
  ·have : e ≠ 0 := fun e0 => hk0 (hz.2 e0)
   rw [if_neg hk0, if_neg (by omega)]; omega
 have hgood : 0 ≤ (if k = 0 then r - e else r - e - 1) := by
  by_cases hk0 : k = 0
  ·have := hz.1 hk0;rw [if_pos hk0]; omega
  ·rw [if_neg hk0];rcases h.brk with h' | ⟨x, hx, hy⟩
   ·exact absurd h' hk0
   ·have hne := hy _ hk
    -- the replica ahead
    have hxe : x.1 + 1 = e := by
     have hl1 : l.take k = l.take (k - 1) ++ [x] := by
      obtain ⟨hk1, ex⟩ := List.getElem?_eq_some_iff.1 hx;have := List.take_succ_eq_append_getElem hk1;rw [show k - 1 + 1 = k by omega, ex] at this;exact this
     rw [← he, hl1];obtain ⟨rs, rr, e1, e2⟩ := zhw (l.take (k - 1)) x;rw [e1, zfh];simp only [zza, e2, Option.getD_some]
    have hlt : x.1 < r := by
     have hp := hl.2;rw [List.pairwise_iff_getElem] at hp;obtain ⟨h1, e1⟩ := List.getElem?_eq_some_iff.1 hx;obtain ⟨h2, e2⟩ := List.getElem?_eq_some_iff.1 hk;have := hp (k - 1) k h1 h2 (by omega);rw [e1, e2] at this;exact this
    omega
 have hgl := zae (n := (if k = 0 then r - e else r - e - 1).toNat) (by split <;> omega);have hml := zae (n := m - 1) (by omega);have htl := zjl (r := zee l k m) (fun x hx => by
  have : x ∈ l := List.mem_of_mem_drop (List.mem_of_mem_take hx);have := hl.1 x this;exact ⟨this.2.2.1, this.2.2.2⟩)
 refine ⟨⟨?_, ?_, ?_, ?_, ?_, by omega, by omega, by omega⟩, hgood, by split <;> omega⟩
 ·rw [hrun, zfh];simp only [zza];rw [hhead, hgap, hlen, h.fx]
 ·rw [hrun, List.length_append, h.fq]; rfl
 ·rw [hrun, zfh];simp only [zza];rw [hlast]; omega
 ·have hx : l[k + m - 1]? = some l[k + m - 1] := List.getElem?_eq_getElem (by omega);rw [hx, Option.map_some] at hend;injection hend with hend
  exact .inr ⟨_, hx, fun y hy => by have := hb y hy; rw [hend]; omega⟩
 ·simp only [List.length_append];have := h.len;rw [hlen] at htl;omega
theorem WAt.done {l : List Ent} {X : List UInt8} {q : Nat} {e : Int} (h : WAt l l.length X q e) : zbt l = vput q ++ X := by
 have h1 := h.fx;have h2 := h.fq;rw [List.take_length] at h1 h2;unfold zbt;rw [h1, h2]
theorem zoj {r : List Ent} {j : Nat} {a t : Int} (h : r[j]? = some (a, t)) : times (r.take (j + 1)) = times (r.take j) ++ vput t.toNat := by
 obtain ⟨hj, e⟩ := List.getElem?_eq_some_iff.1 h;rw [List.take_succ_eq_append_getElem hj, e];simp [times]
end Go.Proofs.YtkejlnjnoiidnaaGreatDoor
end

section
namespace Go.Proofs.YtkejlnjnoiidnaaGreatDoor
def ziz (l : List Wr) (k : Nat) : Int := (zda l k).1
theorem yio {f h : List Ent} {l : List Wr} : ∀ (last : Id) (i : Nat), (bgo f h l last i).1 = 0 → ∀ (k : Nat) w, l[k]? = some w → zao w = 0 ∧ zco (wid w) f h = true ∧ (0 < i + k → zdr (if k = 0 then last else zda l k) (wid w) < 0) := by
 induction l with
 | nil => intro _ _ _ k w hw; simp at hw
 | cons x l ih =>
  intro last i;simp only [bgo];split
  ·rename_i h1; intro h2; exact absurd h2 h1
  ·rename_i h1;split
   ·intro h; simp at h
   ·rename_i h2;split
    ·intro h; simp at h
    ·rename_i h3;intro h4 k w hw;cases k with
     | zero =>
      simp at hw;subst hw;refine ⟨by omega, by simpa using h3, fun hi => ?_⟩;rw [if_pos rfl];rw [Nat.add_zero] at hi;have : ¬ 0 ≤ zdr last (wid x) := fun hc => h2 ⟨hi, hc⟩
      omega
     | succ k =>
      simp at hw;obtain ⟨a, b, c⟩ := ih _ _ h4 k w hw;refine ⟨a, b, fun _ => ?_⟩;have c' := c (by omega);rw [if_neg (by omega)];by_cases hk : k = 0
      ·subst hk;rw [if_pos rfl] at c';rw [zep (l := x :: l) (w := x) rfl];exact c'
      ·rw [if_neg hk] at c';have : zda (x :: l) (k + 1) = zda l k := by
        unfold zda;rw [if_neg (by omega), if_neg hk];congr 1;rw [show k + 1 - 1 = (k - 1) + 1 by omega];simp [List.getD]
       rw [this]; exact c'
theorem ymj {a b : Id} (h : zdr a b < 0) : a.1 ≤ b.1 := by
 unfold zdr at h;split at h
 ·omega
 ·split at h <;> omega
theorem ylv {l : List Ent} {x : Int} (h : vof l x ≠ 0) : ∃ t, (x, t) ∈ l := by
 induction l with
 | nil => exact absurd rfl h
 | cons y l ih =>
  obtain ⟨r, t⟩ := y;simp only [vof] at h;by_cases hr : r = x
  ·subst hr; exact ⟨t, by simp⟩
  ·rw [if_neg hr] at h;obtain ⟨t', ht⟩ := ih h;exact ⟨t', List.mem_cons_of_mem _ ht⟩
theorem zfm {w : Wr} (h : zao w = 0) : 1 ≤ w.1 ∧ w.1 ≤ 1099511627776 ∧ 0 ≤ w.2.1 ∧ w.2.1 ≤ 200 ∧ 1 ≤ w.2.2.1 ∧ w.2.2.1 ≤ 4 ∧ w.2.2.2.1.size ≤ 40 ∧ w.2.2.2.2.1.size ≤ 300 := by
 unfold zao at h;split at h
 ·omega
 ·split at h
  ·omega
  ·rename_i h2;split at h
   ·omega
   ·have h3 : zdd (w.1, w.2.1) = true := by simpa using h2
    unfold zdd at h3;have := of_decide_eq_true h3;simp only at this;omega
theorem yep {f h : List Ent} {l : List Wr} (e : (zbd f h l).1 = 0) {k : Nat} {w : Wr} (hx : l[k]? = some w) : zao w = 0 ∧ (∃ t, (w.2.1, t) ∈ h) ∧ 0 ≤ ziz l k ∧ ziz l k ≤ w.1 := by
 have hb : (bgo f h l (0, 0) 0).1 = 0 := by
  unfold zbd at e;split at e
  ·rename_i h1; exact absurd e h1
  ·split at e
   ·rename_i h2; exact absurd e h2
   ·split at e
    ·simp at e
    ·split at e
     ·simp at e
     ·exact e
 obtain ⟨a, b, c⟩ := yio _ _ hb k w hx;have hid := zfm a;refine ⟨a, ?_, ?_⟩
 ·apply ylv;unfold zco at b;simp at b;omega
 ·unfold ziz;by_cases hk : k = 0
  ·subst hk;refine ⟨by simp [zda], by simp [zda]; omega⟩
  ·have c' := ymj (c (by omega));rw [if_neg hk] at c';obtain ⟨kk, rfl⟩ : ∃ kk, k = kk + 1 := ⟨k - 1, by omega⟩;have hlt : kk < l.length := by have := (List.getElem?_eq_some_iff.1 hx).1; omega
   have h0 := (yio _ _ hb kk _ (List.getElem?_eq_getElem hlt)).1;rw [zep (List.getElem?_eq_getElem hlt)] at c' ⊢;have := (zfm h0).1;exact ⟨by simp only; omega, c'⟩
def zzk (h : List Ent) (at_ : List Int) (w : Wr) (i : Nat) (time : Int) : List UInt8 :=
 [UInt8.ofNat w.2.2.1.toNat] ++ vput (w.1 - time).toNat ++ vput (placeOf h w.2.1) ++ vput (at_.getD i 0).toNat ++ (zfn w).data.toList
theorem ylh (h : List Ent) (at_ : List Int) (w : Wr) (l : List Wr) : ∀ (i : Nat) (time : Int), zbz h at_ (l ++ [w]) i time = zbz h at_ l i time ++ zzk h at_ w (i + l.length) (if l = [] then time else (l.getLast?.getD noWr).1) := by
 induction l with
 | nil => intro i time; simp [zbz, zzk]
 | cons x l ih =>
  intro i time;simp only [List.cons_append, zbz];rw [ih];simp only [List.append_assoc, List.length_cons];rw [show i + 1 + l.length = i + (l.length + 1) by omega];congr 6;by_cases hl : l = []
  ·subst hl; simp
  ·rw [if_neg hl, if_neg (by simp)];rw [List.getLast?_cons];cases hq : l.getLast? with
   | none => exact absurd (List.getLast?_eq_none_iff.1 hq) hl
   | some q => simp
theorem yfd {h : List Ent} {at_ : List Int} {l : List Wr} {k : Nat} {w : Wr} (hx : l[k]? = some w) : zbz h at_ (l.take (k + 1)) 0 0 = zbz h at_ (l.take k) 0 0 ++ zzk h at_ w k (ziz l k) := by
 obtain ⟨hk, e⟩ := List.getElem?_eq_some_iff.1 hx;rw [List.take_succ_eq_append_getElem hk, e, ylh];congr 2
 ·rw [List.length_take]; omega
 ·unfold ziz zda;by_cases h0 : k = 0
  ·subst h0; simp
  ·rw [if_neg h0];have hne : l.take k ≠ [] := by
    intro e0;have := congrArg List.length e0;rw [List.length_take, List.length_nil] at this;omega
   rw [if_neg hne];have : (l.take k).getLast? = l[k - 1]? := by
    rw [List.getLast?_eq_getElem?, List.length_take, Nat.min_eq_left (by omega), List.getElem?_take_of_lt (by omega)]
   rw [this];simp [List.getD]
theorem ydm (l : List ByteArray) : ∀ z ∈ (Keys.tab l).2, 0 ≤ z ∧ z ≤ (l.length : Int) := by
 suffices H : ∀ r : List ByteArray, ∀ z ∈ (Keys.tab r.reverse).2, 0 ≤ z ∧ z ≤ (r.length : Int) by
  have := H l.reverse;simpa using this
 intro r;induction r with
 | nil => intro z hz; simp [Keys.tab] at hz
 | cons x r ih =>
  have hl := (Keys.zkl r.reverse).1;rw [List.length_reverse] at hl;rw [List.reverse_cons, Keys.zrj];by_cases hs : x ∈ (Keys.tab r.reverse).1
  ·rw [Keys.zld hs];intro z hz;rcases List.mem_append.1 hz with hz | hz
   ·have := ih z hz; simp only [List.length_cons]; omega
   ·simp at hz;subst hz;have := List.idxOf_lt_length_of_mem hs;simp only [List.length_cons]; omega
  ·rw [Keys.zka hs];intro z hz;rcases List.mem_append.1 hz with hz | hz
   ·have := ih z hz; simp only [List.length_cons]; omega
   ·simp at hz;subst hz;simp only [List.length_cons]; omega
theorem zyu {l : List Ent} {x t : Int} (h : (x, t) ∈ l) : placeOf l x < l.length := by
 induction l with
 | nil => simp at h
 | cons y l ih =>
  obtain ⟨r, t'⟩ := y;simp only [placeOf, List.length_cons];by_cases hr : r = x
  ·rw [if_pos hr]; omega
  ·rw [if_neg hr];rcases List.mem_cons.1 h with h | h
   ·injection h with h1 _; exact absurd h1.symm hr
   ·have := ih h; omega
theorem ynf {n : Int} (h : -1125899906842624 ≤ n) (h2 : n ≤ 1125899906842624) : zigN n < 18446744073709551616 := by unfold zigN; split <;> omega
theorem yhi {w : Wr} (h : zao w = 0) : -1125899906842624 ≤ w.2.2.2.2.2 ∧ w.2.2.2.2.2 ≤ 1125899906842624 := by
 unfold zao at h;split at h
 ·omega
 ·split at h
  ·omega
  ·split at h
   ·omega
   ·split at h
    ·omega
    ·split at h
     ·omega
     ·omega
theorem zwl {w : Wr} (h : zao w = 0) : (zfn w).size ≤ 320 := by
 have h1 := (zfm h).2.2.2.2.2.2.2;have h2 := yhi h;have l1 := zae (n := w.2.2.2.2.1.size) (by omega);have l2 := zae (n := zigN w.2.2.2.2.2) (ynf h2.1 h2.2);have l3 := zae (n := w.2.2.2.2.2.toNat) (by omega);have e : ∀ l : List UInt8, (strOf l).size = l.length := fun l => by show l.toArray.size = _; simp
 unfold zfn;split
 ·rw [ByteArray.size_append, e]; omega
 ·split
  ·rw [e]; omega
  ·split
   ·rw [ByteArray.size_append, ByteArray.size_append, e, e]; omega
   ·rw [e]; simp
theorem yez {h : List Ent} {at_ : List Int} {w : Wr} {i : Nat} {tm : Int} (hw : zao w = 0) (h0 : 0 ≤ tm) (h1 : placeOf h w.2.1 ≤ 1000) (h2 : (at_.getD i 0).toNat ≤ 1000) : (zzk h at_ w i tm).length ≤ 400 := by
 have hid := zfm hw;have ht := zwl hw;have l1 := zae (n := (w.1 - tm).toNat) (by omega);have l2 := zae (n := placeOf h w.2.1) (by omega);have l3 := zae (n := (at_.getD i 0).toNat) (by omega);have e : (zfn w).data.toList.length = (zfn w).size := by simp
 unfold zzk;simp only [List.length_append, List.length_singleton];omega
end Go.Proofs.YtkejlnjnoiidnaaGreatDoor
end

section
namespace Go.Proofs.YtkejlnjnoiidnaaGreatDoor
open Go.RowKit As
theorem zbl (a b : List UInt8) : strOf a ++ strOf b = strOf (a ++ b) := by
 apply ByteArray.ext;show (strOf a ++ strOf b).data = _;rw [ByteArray.data_append];simp [strOf]
theorem zls (b o n c k m : Nat) (h : k < n) (h2 : k + m ≤ n) (hc : n ≤ c) (w : World) : (Instr.slice 22 (.slice (some ⟨b, o, none⟩) n c) (some (.int .i64 (k : Int))) (some (.int .i64 ((k : Int) + (m : Int)))) none).run Tryz.prog w = .ok (.slice (some ⟨b, o + k * 2, none⟩) m (c - k)) w := by
 rw [run_slice_lh w _ (some ⟨b, o, none⟩) n c (by kernel_rfl) .i64 .i64 k ((k : Int) + (m : Int)) (by omega) (by omega) (by omega), show (sizeOf (Tryz.prog.elem 22)).run Tryz.prog w = .ok 2 w by kernel_rfl];show Result.ok (sliced (some ⟨b, o, none⟩) (k : Int).toNat ((k : Int) + (m : Int)).toNat c 2) w = _;unfold sliced;rw [show (k : Int).toNat = k by omega, show ((k : Int) + (m : Int)).toNat = k + m by omega, if_neg (by omega), show k + m - k = m by omega];simp [Addr.add]
theorem zpb {l : List Ent} (h : (zaf l).1 ≠ 0) : zlg l = (strOf [], zaf l) := by unfold zlg; rw [if_pos h]
theorem zem {l : List Ent} (h : (zaf l).1 = 0) : zlg l = (strOf (zbt l), 0, -1) := by unfold zlg; rw [if_neg (by omega)]
theorem yie {l : List Ent} {k m : Nat} {r t : Int} (hall : ∀ j x, j < m → l[k + j]? = some x → x.1 = r + j) (hx : l[k + m]? = some (r + m, t)) : ∀ j x, j < m + 1 → l[k + j]? = some x → x.1 = r + j := by
 intro j x hj h;rcases Nat.lt_or_ge j m with h' | h'
 ·exact hall j x h' h
 ·obtain rfl : j = m := by omega
  rw [hx] at h;injection h with h
  subst h;rfl
theorem yfm {k m n : Nat} {r : Int} (h : k + m ≤ n) (h2 : n ≤ 16) (h3 : 0 ≤ r) (h4 : r ≤ 200) : wrap64 ((k : Int) + (m : Int)) = (k : Int) + (m : Int) ∧ IntKind.i64.wrap ((k : Int) + (m : Int)) = (k : Int) + (m : Int) ∧ wrap64 (r + (m : Int)) = r + (m : Int) ∧ ((k : Int) + (m : Int)).toNat = k + m ∧ IntKind.i64.wrap (r + (m : Int)) = r + (m : Int) ∧ wrap64 ((m : Int) + 1) = (m : Int) + 1 ∧ IntKind.i64.wrap ((m : Int) + 1) = (m : Int) + 1 :=
 ⟨IntWalk.wrap64_in _ (by omega), IntWalk.i64_in _ (by omega), IntWalk.wrap64_in _ (by omega), by omega, IntWalk.i64_in _ (by omega), IntWalk.wrap64_in _ (by omega), IntWalk.i64_in _ (by omega)⟩
theorem zyk {k m n : Nat} (h : k + m < n) : decide ((k : Int) + (m : Int) < (n : Int)) = true ∧ decide (k + m < n) = true ∧ ((0 : Int) ≤ (k : Int) + (m : Int) ∧ (k : Int) + (m : Int) < (n : Int)) :=
 ⟨by simp; omega, by simpa using h, by omega, by omega⟩
theorem yaw {r e : Int} (h0 : 0 ≤ r) (h1 : r ≤ 200) (h2 : 0 ≤ e) (h3 : e ≤ 201) : wrap64 (r - e) = r - e ∧ IntKind.i64.wrap (r - e) = r - e ∧ wrap64 (r - e - 1) = r - e - 1 ∧ IntKind.i64.wrap (r - e - 1) = r - e - 1 :=
 ⟨IntWalk.wrap64_in _ (by omega), IntWalk.i64_in _ (by omega), IntWalk.wrap64_in _ (by omega), IntWalk.i64_in _ (by omega)⟩
theorem u64_in {G : Nat} (h : G ≤ 1099511627776) : IntKind.u64.wrap (G : Int) = (G : Int) := by simp [IntKind.wrap, IntKind.bits, IntKind.signed]; omega
theorem yap {m : Nat} (h : 1 ≤ m) (h2 : m ≤ 16) : wrap64 ((m : Int) - 1) = ((m - 1 : Nat) : Int) ∧ IntKind.i64.wrap ((m : Int) - 1) = ((m - 1 : Nat) : Int) ∧ IntKind.u64.wrap ((m - 1 : Nat) : Int) = ((m - 1 : Nat) : Int) :=
 ⟨by rw [show (m : Int) - 1 = ((m - 1 : Nat) : Int) by omega]; exact IntWalk.wrap64_in _ (by omega), by rw [show (m : Int) - 1 = ((m - 1 : Nat) : Int) by omega]; exact IntWalk.i64_in _ (by omega), u64_in (by omega)⟩
theorem ylt {q : Nat} (h : q ≤ 16) : IntKind.u64.wrap ((q : Int) + 1) = ((q + 1 : Nat) : Int) := by
 rw [show (q : Int) + 1 = ((q + 1 : Nat) : Int) by omega]; exact u64_in (by omega)
theorem yhb {k m n : Nat} (h : n ≤ k + m) : decide ((k : Int) + (m : Int) < (n : Int)) = false ∧ decide (k + m < n) = false := ⟨by simp; omega, by simp; omega⟩
theorem zbx {m n : Nat} (h : m < n) : n - ((m : Int) + 1).toNat < n - ((m : Int)).toNat := by omega
theorem zyn {k : Nat} (h : k = 0) : decide ((0 : Int) < (k : Int)) = false ∧ decide (0 < k) = false := by subst h; exact ⟨by simp, by simp⟩
theorem ydt {k : Nat} (h : ¬ k = 0) : decide ((0 : Int) < (k : Int)) = true ∧ decide (0 < k) = true := ⟨by simp; omega, by simp; omega⟩
theorem zkc {k m n : Nat} (h : 1 ≤ m) (h2 : k < n) : n - ((k : Int) + (m : Int)).toNat < n - ((k : Int)).toNat := by omega
theorem zxc {q k m : Nat} (h : q ≤ k) (h2 : 1 ≤ m) : q + 1 ≤ k + m := by omega
theorem zgv {j m : Nat} (h : j < m) : decide ((j : Int) < (m : Int)) = true ∧ decide (j < m) = true := ⟨by simp; omega, by simpa using h⟩
theorem zha {j m : Nat} (h : ¬ j < m) : decide ((j : Int) < (m : Int)) = false ∧ decide (j < m) = false := ⟨by simp; omega, by simpa using h⟩
theorem zht {j : Nat} (h : j ≤ 16) : wrap64 ((j : Int) + 1) = (j : Int) + 1 ∧ IntKind.i64.wrap ((j : Int) + 1) = (j : Int) + 1 := ⟨IntWalk.wrap64_in _ (by omega), IntWalk.i64_in _ (by omega)⟩
theorem zjc {A B : ByteArray} (h : A.size ≤ 10000) (h' : B.size ≤ 10000) : ¬ 9223372036854775807 < A.size + B.size := by omega
theorem zjo {G M : Nat} {S1 S2 : ByteArray} {X : List UInt8} (hG : G ≤ 200) (hM : M ≤ 16) (h1 : S1 = strOf (vput G)) (h2 : S2 = strOf (vput M)) (hX : X.length ≤ 640) :
  ¬ 9223372036854775807 < S1.size + S2.size ∧ ¬ 9223372036854775807 < (strOf X).size + (S1 ++ S2).size ∧ strOf X ++ (S1 ++ S2) = strOf (X ++ (vput G ++ vput M)) ∧ (X ++ (vput G ++ vput M)).length ≤ 660 := by
 have e1 := zae (n := G) (by omega);have e2 := zae (n := M) (by omega);subst h1 h2;refine ⟨zjc (by rw [zas]; omega) (by rw [zas]; omega), zjc (by rw [zas]; omega) (by rw [zbl, zas, List.length_append]; omega), by rw [zbl, zbl], by simp only [List.length_append]; omega⟩
theorem zgi {w1 wx : World} {b o n k m j : Nat} {l : List Ent} (hl : Ents w1 w1.heap.size (some ⟨b, o, none⟩) n l) (hris : zgs 0 l) (hkm : k + m ≤ n) (hj : j < m) (hbx : Below w1.heap.size w1 wx) :
  ∃ (T : Nat) (y : Int), 1 ≤ T ∧ T ≤ 1099511627776 ∧ wx.cell? ⟨b, o + k * 2 + j * 2, none⟩ = some (.int .i64 y) ∧ wx.cell? ⟨b, o + k * 2 + j * 2 + 1, none⟩ = some (.int .i64 (T : Int)) ∧ (zee l k m)[j]? = some (y, (T : Int)) := by
 obtain ⟨b', o', r3, t3, e', hb, hx, _, c0, c1⟩ := hl.at_ (k := k + j) (by omega);injection e' with e'
 injection e' with e1 e2 _
 subst e1 e2;have h3 := hris.1 _ (List.mem_of_getElem? hx);simp only at h3;obtain ⟨T, rfl⟩ := Int.eq_ofNat_of_zero_le (show 0 ≤ t3 by omega);refine ⟨T, r3, by omega, by omega, ?_, ?_, by rw [zjw hj]; exact hx⟩
 ·rw [show o + k * 2 + j * 2 = o + (k + j) * 2 by omega];exact (hbx.cell (p := ⟨b, o + (k + j) * 2, none⟩) hb).trans c0
 ·rw [show o + k * 2 + j * 2 + 1 = o + (k + j) * 2 + 1 by omega];exact (hbx.cell (p := ⟨b, o + (k + j) * 2 + 1, none⟩) hb).trans c1
theorem ziq {l : List Ent} {k m j T : Nat} {y : Int} {X1 : List UInt8} (hris : zgs 0 l) (hX : X1.length ≤ 660) (hm : m ≤ 16) (hj : j ≤ m) (hT : T ≤ 1099511627776) (hx : (zee l k m)[j]? = some (y, (T : Int))) :
  ¬ 9223372036854775807 < (strOf (X1 ++ times ((zee l k m).take j))).size + (strOf (vput T)).size ∧ strOf (X1 ++ times ((zee l k m).take j)) ++ strOf (vput T) = strOf (X1 ++ times ((zee l k m).take (j + 1))) := by
 have e1 := zae (n := T) (by omega);have e2 := zjl (r := (zee l k m).take j) (fun x hx => by
  have : x ∈ l := List.mem_of_mem_drop (List.mem_of_mem_take (List.mem_of_mem_take hx));have := hris.1 x this;exact ⟨this.2.2.1, this.2.2.2⟩)
 have e3 : ((zee l k m).take j).length ≤ j := by rw [List.length_take]; omega
 refine ⟨zjc (by rw [zas, List.length_append]; omega) (by rw [zas]; omega), ?_⟩;rw [zoj hx, zbl, Int.toNat_natCast, List.append_assoc]
theorem zjy {l : List Ent} {k m n G M : Nat} {X X1 : List UInt8} (h : X1 = X ++ (vput G ++ vput M)) (hkm : k + m ≤ n) (hl : l.length = n) : X1 ++ times ((zee l k m).take m) = X ++ (vput G ++ vput M ++ times (zee l k m)) := by
 rw [List.take_of_length_le (by rw [zth (by omega)]; exact Nat.le_refl _), h, List.append_assoc]
theorem ykw {l : List Ent} {n q : Nat} {X : List UInt8} {e : Int} (h : WAt l n X q e) (hl : l.length = n) : zbt l = vput q ++ X := by subst hl; exact h.done
theorem ybn {q : Nat} {X : List UInt8} (hq : q ≤ 16) (hX : X.length ≤ 640) : ¬ 9223372036854775807 < (strOf (vput q)).size + (strOf X).size ∧ strOf (vput q) ++ strOf X = strOf (vput q ++ X) := by
 have e1 := zae (n := q) (by omega);exact ⟨zjc (by rw [zas]; omega) (by rw [zas]; omega), zbl _ _⟩
theorem ykh {l : List Ent} {k m n : Nat} {r : Int} (h : ¬ (k + m < n ∧ ∃ t', l[k + m]? = some (r + m, t'))) (hl : l.length = n := by assumption) : ∀ y, l[k + m]? = some y → y.1 ≠ r + m := by
 intro y hy e;have := (List.getElem?_eq_some_iff.1 hy).1;exact h ⟨by omega, y.2, by rw [hy, ← e]⟩
set_option maxHeartbeats 8000000 in
set_option maxRecDepth 100000 in
theorem zog (w : World) (n c : Nat) (A : Option Addr) (l : List Ent) (hl : Ents w w.heap.size A n l) (hn : n ≤ maxLen) (hc : n ≤ c) :
  Calls Tryz.prog 90 #[.slice A n c] w fun e w' => ∃ v, e = .returned (.tuple #[.string (zlg l).1, v]) ∧ zck w' v (zlg l).2 ∧ Below w.heap.size w w' := by
 by_cases hbad : (zaf l).1 = 0
 ·have hr := Lib.hid (zem hbad);have hris := Lib.hid (zlp hbad);have hlen := hl.len;have h16 := zbu hbad;have h16n : n ≤ 16 := by rw [← hlen]; exact h16
  go_enter Tryz.func90, Tryz.ntmps90;go_wp2_with fail;refine (zcn w n c A l hl hn).mono ?_;rintro e w1 ⟨v1, rfl, hv1, hb1⟩;obtain rfl := zhk hv1 hbad;have HB := Lib.hid hbad;have hl1 := hl.grow hb1;clear hv1 hl hbad;go_wp2;go_loopw [5, 6, 7, 8] (fun qv xv ev kv wr => ∃ (k q : Nat) (X : List UInt8) (e : Int), k ≤ n ∧ kv = .int .i64 k ∧ qv = .int .u64 q ∧ xv = .string (strOf X) ∧ ev = .int .i64 e ∧ Hid (WAt l k X q e) ∧ q ≤ k ∧ Below w1.heap.size w1 wr) (fun _ _ _ kv _ => n - (intOf kv).toNat)
  case atStart => exact ⟨0, 0, [], 0, by omega, rfl, rfl, rfl, rfl, Lib.hid (WAt.new l), Nat.le_refl _, Below.refl _ _⟩
  case round =>
   obtain ⟨k, q, X, e, hk, rfl, rfl, rfl, rfl, hat, hq, hbel⟩ := hrel;have hB := hbel.size;by_cases hlt : k < n
   ·obtain ⟨b, o, r, t, rfl, hb, hx, hf, hc0, hc1⟩ := hl1.at_ hlt;have c0 := (hbel.cell (p := ⟨b, o + k * 2, none⟩) (by simp; omega)).trans hc0;have hX := Lib.hid hx;have hr0 := hris.out.1 _ (List.mem_of_getElem? hx);have hXl := hat.out.len;have he0 := hat.out.lo;have he1 := hat.out.hi;simp only at hr0;have HC0 := Lib.hid hc0;have HC0 := Lib.hid hc0;have HC0 := Lib.hid hc0;clear hx hf hc0 hc1;go_wp2;go_loopw [9] (fun mv wx => ∃ m : Nat, mv = .int .i64 m ∧ 1 ≤ m ∧ k + m ≤ n ∧ Hid (∀ j x, j < m → l[k + j]? = some x → x.1 = r + j) ∧ ∃ z, wx = wr.drewN z) (fun mv _ => n - (intOf mv).toNat)
    case atStart => exact ⟨1, rfl, by omega, by omega, Lib.hid (fun j x hj hjx => by obtain rfl : j = 0 := (by omega); rw [Nat.add_zero, hX.out] at hjx; injection hjx with hjx; subst hjx; simp), 0, rfl⟩
    case round =>
     obtain ⟨m, rfl, hm0, hkm, hall, z, rfl⟩ := hrel;obtain ⟨w1k, w2k, w3k, a3, w4k, w5k, w6k⟩ := yfm hkm (show n ≤ 16 by rw [← hlen]; exact h16) hr0.1 hr0.2.1;by_cases hs : k + m < n ∧ ∃ t', l[k + m]? = some (r + m, t')
     ·obtain ⟨hs1, t', ht'⟩ := hs;obtain ⟨b', o', r2, t2, e', _, hx2, _, hd0, _⟩ := hl1.at_ hs1;injection e' with e'
      injection e' with e1 e2 _
      subst e1 e2;rw [ht'] at hx2;injection hx2 with hx2
      injection hx2 with e3 e4
      subst e3 e4;have d0 := (hbel.cell (p := ⟨b, o + (k + m) * 2, none⟩) hb).trans hd0;have hnx := Lib.hid (yie hall.out ht');obtain ⟨a0, a1, a2⟩ := zyk hs1;clear ht' hd0;go_wp2_with fail;go_quiet (fail)
      go_wp2;go_roundw
      case rel => exact ⟨m + 1, by go_num, Nat.le_add_left _ _, hs1, hnx, z + nq, by first | rfl | rw [World.drewN_drewN]⟩
      case measure => exact zbx (Nat.lt_of_le_of_lt (Nat.le_add_left m k) hs1)
     ·have hstop := Lib.hid (ykh hs);obtain ⟨hnext, g0, g1⟩ := hat.out.next hris.out hX.out hm0 (by rw [hlen]; exact hkm) hall.out hstop.out;obtain ⟨G, hG⟩ := Int.eq_ofNat_of_zero_le g0;rw [hG] at hnext g1;rw [Int.toNat_natCast] at hnext;have hGl : G ≤ 200 := Int.ofNat_le.1 g1;have hml : m ≤ 16 := Nat.le_trans (Nat.le_add_left m k) (Nat.le_trans hkm h16n);obtain ⟨q1, q2, q3, q4⟩ := yaw hr0.1 hr0.2.1 he0 he1;obtain ⟨m1, m2, m3⟩ := yap hm0 hml;obtain ⟨M, hM⟩ : ∃ M, M = m - 1 := ⟨_, rfl⟩;rw [← hM] at hnext m1 m2 m3;have hMl : M ≤ 16 := by rw [hM]; exact Nat.le_trans (Nat.sub_le m 1) hml
      have HN := Lib.hid hnext;have G1 := u64_in (G := G) (Nat.le_trans hGl (by decide));have Q1 := ylt (q := q) (Nat.le_trans hq (Nat.le_trans hk h16n));have hkn : (0 : Int) ≤ (k : Int) ∧ (k : Int) < (n : Int) := ⟨Int.natCast_nonneg k, Int.ofNat_lt.2 hlt⟩;have hGG := Lib.hid hG;have HM := Lib.hid hM;have hall' := Lib.hid hall;clear hnext g0 g1 hs hG hM;rcases Nat.lt_or_ge (k + m) n with hs1 | hs1
      ·obtain ⟨b', o', r2, t2, e', _, hx2, _, hd0, _⟩ := hl1.at_ hs1;injection e' with e'
       injection e' with e1 e2 _
       subst e1 e2;have d0 := (hbel.cell (p := ⟨b, o + (k + m) * 2, none⟩) hb).trans hd0;obtain ⟨a0, a1, a2⟩ := zyk hs1;have hne : (r2 == r + (m : Int)) = false := by
        have := hstop.out _ hx2;simpa using this
       clear hx2 hd0;go_wp2_with fail;go_quiet (fail)
       clear a0 a1 a2 hne d0 a3 hs1;by_cases hk0 : k = 0
       ·obtain ⟨z0, z1⟩ := zyn hk0;have hG' : r - e = (G : Int) := by rw [← hGG.out, if_pos hk0]
        have HK := Lib.hid hk0;clear hk0;go_wp2_with fail;refine (zbm G _ (Nat.lt_of_le_of_lt hGl (by decide))).mono ?_;rintro y w3 ⟨rfl, hb3⟩;have hbel3 := (below_drewN hbel (z + nq)).trans (hb3.mono hB);go_wp2_with fail;refine (zbm M _ (Nat.lt_of_le_of_lt hMl (by decide))).mono ?_;rintro y w4 ⟨rfl, hb4⟩;have hbel4 := hbel3.trans (hb4.mono hbel3.size);clear hb3 hb4 hbel3 hbel hall hG' z0 z1 hb1;obtain ⟨S1, hS1⟩ : ∃ S, S = strOf (vput G) := ⟨_, rfl⟩;obtain ⟨S2, hS2⟩ : ∃ S, S = strOf (vput M) := ⟨_, rfl⟩;rw [show (⟨(vput M).toArray⟩ : ByteArray) = S2 from hS2.symm, show (⟨(vput G).toArray⟩ : ByteArray) = S1 from hS1.symm];obtain ⟨f1, f2, f3, f4⟩ := zjo hGl hMl hS1 hS2 (X := X) (Nat.le_trans hXl (Nat.mul_le_mul_left 40 (Nat.le_trans hk h16n)));have hsl := zls b o n c k m hlt hkm hc;obtain ⟨X1, hX1⟩ : ∃ X1, X1 = X ++ (vput G ++ vput M) := ⟨_, rfl⟩;rw [← hX1] at f3 f4;have HX1 := Lib.hid hX1;clear hX1 hS1 hS2;go_wp2_with fail;try rw [f3]
        clear f1 f2 f3 hsl;have hJ := Lib.hid hkm;go_loopw [6, 12, 75] (fun ov _ jv wx => ∃ j : Nat, j ≤ m ∧ jv = .int .i64 j ∧ ov = .string (strOf (X1 ++ times ((zee l k m).take j))) ∧ Below w1.heap.size w1 wx) (fun _ _ jv _ => m - (intOf jv).toNat)
        case atStart => exact ⟨0, Nat.zero_le _, rfl, by simp [times], hbel4⟩
        case round =>
         obtain ⟨j, hj, rfl, rfl, hbx⟩ := hrel;have hBx := hbx.size;by_cases hjm : j < m
         ·obtain ⟨T, y3, x1, x2, x3, x4, x5⟩ := zgi hl1 hris.out hkm hjm hbx;have U1 := u64_in x2;have jn : (0 : Int) ≤ (j : Int) ∧ (j : Int) < (m : Int) := ⟨Int.natCast_nonneg j, Int.ofNat_lt.2 hjm⟩;obtain ⟨jw1, jw2⟩ := zht (j := j) (Nat.le_trans hj hml);obtain ⟨jd1, jd2⟩ := zgv hjm;go_wp2_with fail;refine (zbm T _ (Nat.lt_of_le_of_lt x2 (by decide))).mono ?_;rintro y w5 ⟨rfl, hb5⟩;have hbx5 := (hbx.alloc hBx _).trans (hb5.mono (Nat.le_trans hBx (by simp)));obtain ⟨f5, f6⟩ := ziq (j := j) (m := m) hris.out f4 hml hj x2 x5;rw [show (⟨(vput T).toArray⟩ : ByteArray) = strOf (vput T) from rfl];go_wp2_with fail;go_roundw
          case rel => exact ⟨j + 1, hjm, by first | rfl | (congr 1), by first | rfl | rw [f6], hbx5⟩
          case measure => exact zbx hjm
         ·obtain rfl : j = m := Nat.le_antisymm hj (Nat.not_lt.1 hjm);have c0x := (hbx.cell (p := ⟨b, o + k * 2, none⟩) hb).trans HC0.out;have hfin := Lib.hid (zjy (l := l) (k := k) (m := j) (X := X) HX1.out hJ.out hlen);obtain ⟨jd1, jd2⟩ := zha (Nat.lt_irrefl j);go_wp2_with fail;go_roundw
          case rel => exact ⟨k + j, q + 1, _, r + j, hkm, by first | rfl | (congr 1), rfl, by rw [hfin.out], rfl, HN, zxc hq hm0, hbx⟩
          case measure => exact zkc hm0 hlt
       ·obtain ⟨z0, z1⟩ := ydt hk0;have hG' : r - e - 1 = (G : Int) := by rw [← hGG.out, if_neg hk0]
        have HK := Lib.hid hk0;clear hk0;go_wp2_with fail;refine (zbm G _ (Nat.lt_of_le_of_lt hGl (by decide))).mono ?_;rintro y w3 ⟨rfl, hb3⟩;have hbel3 := (below_drewN hbel (z + nq)).trans (hb3.mono hB);go_wp2_with fail;refine (zbm M _ (Nat.lt_of_le_of_lt hMl (by decide))).mono ?_;rintro y w4 ⟨rfl, hb4⟩;have hbel4 := hbel3.trans (hb4.mono hbel3.size);clear hb3 hb4 hbel3 hbel hall hG' z0 z1 hb1;obtain ⟨S1, hS1⟩ : ∃ S, S = strOf (vput G) := ⟨_, rfl⟩;obtain ⟨S2, hS2⟩ : ∃ S, S = strOf (vput M) := ⟨_, rfl⟩;rw [show (⟨(vput M).toArray⟩ : ByteArray) = S2 from hS2.symm, show (⟨(vput G).toArray⟩ : ByteArray) = S1 from hS1.symm];obtain ⟨f1, f2, f3, f4⟩ := zjo hGl hMl hS1 hS2 (X := X) (Nat.le_trans hXl (Nat.mul_le_mul_left 40 (Nat.le_trans hk h16n)));have hsl := zls b o n c k m hlt hkm hc;obtain ⟨X1, hX1⟩ : ∃ X1, X1 = X ++ (vput G ++ vput M) := ⟨_, rfl⟩;rw [← hX1] at f3 f4;have HX1 := Lib.hid hX1;clear hX1 hS1 hS2;go_wp2_with fail;try rw [f3]
        clear f1 f2 f3 hsl;have hJ := Lib.hid hkm;go_loopw [6, 12, 75] (fun ov _ jv wx => ∃ j : Nat, j ≤ m ∧ jv = .int .i64 j ∧ ov = .string (strOf (X1 ++ times ((zee l k m).take j))) ∧ Below w1.heap.size w1 wx) (fun _ _ jv _ => m - (intOf jv).toNat)
        case atStart => exact ⟨0, Nat.zero_le _, rfl, by simp [times], hbel4⟩
        case round =>
         obtain ⟨j, hj, rfl, rfl, hbx⟩ := hrel;have hBx := hbx.size;by_cases hjm : j < m
         ·obtain ⟨T, y3, x1, x2, x3, x4, x5⟩ := zgi hl1 hris.out hkm hjm hbx;have U1 := u64_in x2;have jn : (0 : Int) ≤ (j : Int) ∧ (j : Int) < (m : Int) := ⟨Int.natCast_nonneg j, Int.ofNat_lt.2 hjm⟩;obtain ⟨jw1, jw2⟩ := zht (j := j) (Nat.le_trans hj hml);obtain ⟨jd1, jd2⟩ := zgv hjm;go_wp2_with fail;refine (zbm T _ (Nat.lt_of_le_of_lt x2 (by decide))).mono ?_;rintro y w5 ⟨rfl, hb5⟩;have hbx5 := (hbx.alloc hBx _).trans (hb5.mono (Nat.le_trans hBx (by simp)));obtain ⟨f5, f6⟩ := ziq (j := j) (m := m) hris.out f4 hml hj x2 x5;rw [show (⟨(vput T).toArray⟩ : ByteArray) = strOf (vput T) from rfl];go_wp2_with fail;go_roundw
          case rel => exact ⟨j + 1, hjm, by first | rfl | (congr 1), by first | rfl | rw [f6], hbx5⟩
          case measure => exact zbx hjm
         ·obtain rfl : j = m := Nat.le_antisymm hj (Nat.not_lt.1 hjm);have c0x := (hbx.cell (p := ⟨b, o + k * 2, none⟩) hb).trans HC0.out;have hfin := Lib.hid (zjy (l := l) (k := k) (m := j) (X := X) HX1.out hJ.out hlen);obtain ⟨jd1, jd2⟩ := zha (Nat.lt_irrefl j);go_wp2_with fail;go_roundw
          case rel => exact ⟨k + j, q + 1, _, r + j, hkm, by first | rfl | (congr 1), rfl, by rw [hfin.out], rfl, HN, zxc hq hm0, hbx⟩
          case measure => exact zkc hm0 hlt
      ·obtain ⟨a0, a1⟩ := yhb hs1;go_wp2_with fail;go_quiet (fail)
       clear a0 a1 a3 hs1;by_cases hk0 : k = 0
       ·obtain ⟨z0, z1⟩ := zyn hk0;have hG' : r - e = (G : Int) := by rw [← hGG.out, if_pos hk0]
        have HK := Lib.hid hk0;clear hk0;go_wp2_with fail;refine (zbm G _ (Nat.lt_of_le_of_lt hGl (by decide))).mono ?_;rintro y w3 ⟨rfl, hb3⟩;have hbel3 := (below_drewN hbel (z + nq)).trans (hb3.mono hB);go_wp2_with fail;refine (zbm M _ (Nat.lt_of_le_of_lt hMl (by decide))).mono ?_;rintro y w4 ⟨rfl, hb4⟩;have hbel4 := hbel3.trans (hb4.mono hbel3.size);clear hb3 hb4 hbel3 hbel hall hG' z0 z1 hb1;obtain ⟨S1, hS1⟩ : ∃ S, S = strOf (vput G) := ⟨_, rfl⟩;obtain ⟨S2, hS2⟩ : ∃ S, S = strOf (vput M) := ⟨_, rfl⟩;rw [show (⟨(vput M).toArray⟩ : ByteArray) = S2 from hS2.symm, show (⟨(vput G).toArray⟩ : ByteArray) = S1 from hS1.symm];obtain ⟨f1, f2, f3, f4⟩ := zjo hGl hMl hS1 hS2 (X := X) (Nat.le_trans hXl (Nat.mul_le_mul_left 40 (Nat.le_trans hk h16n)));have hsl := zls b o n c k m hlt hkm hc;obtain ⟨X1, hX1⟩ : ∃ X1, X1 = X ++ (vput G ++ vput M) := ⟨_, rfl⟩;rw [← hX1] at f3 f4;have HX1 := Lib.hid hX1;clear hX1 hS1 hS2;go_wp2_with fail;try rw [f3]
        clear f1 f2 f3 hsl;have hJ := Lib.hid hkm;go_loopw [6, 12, 75] (fun ov _ jv wx => ∃ j : Nat, j ≤ m ∧ jv = .int .i64 j ∧ ov = .string (strOf (X1 ++ times ((zee l k m).take j))) ∧ Below w1.heap.size w1 wx) (fun _ _ jv _ => m - (intOf jv).toNat)
        case atStart => exact ⟨0, Nat.zero_le _, rfl, by simp [times], hbel4⟩
        case round =>
         obtain ⟨j, hj, rfl, rfl, hbx⟩ := hrel;have hBx := hbx.size;by_cases hjm : j < m
         ·obtain ⟨T, y3, x1, x2, x3, x4, x5⟩ := zgi hl1 hris.out hkm hjm hbx;have U1 := u64_in x2;have jn : (0 : Int) ≤ (j : Int) ∧ (j : Int) < (m : Int) := ⟨Int.natCast_nonneg j, Int.ofNat_lt.2 hjm⟩;obtain ⟨jw1, jw2⟩ := zht (j := j) (Nat.le_trans hj hml);obtain ⟨jd1, jd2⟩ := zgv hjm;go_wp2_with fail;refine (zbm T _ (Nat.lt_of_le_of_lt x2 (by decide))).mono ?_;rintro y w5 ⟨rfl, hb5⟩;have hbx5 := (hbx.alloc hBx _).trans (hb5.mono (Nat.le_trans hBx (by simp)));obtain ⟨f5, f6⟩ := ziq (j := j) (m := m) hris.out f4 hml hj x2 x5;rw [show (⟨(vput T).toArray⟩ : ByteArray) = strOf (vput T) from rfl];go_wp2_with fail;go_roundw
          case rel => exact ⟨j + 1, hjm, by first | rfl | (congr 1), by first | rfl | rw [f6], hbx5⟩
          case measure => exact zbx hjm
         ·obtain rfl : j = m := Nat.le_antisymm hj (Nat.not_lt.1 hjm);have c0x := (hbx.cell (p := ⟨b, o + k * 2, none⟩) hb).trans HC0.out;have hfin := Lib.hid (zjy (l := l) (k := k) (m := j) (X := X) HX1.out hJ.out hlen);obtain ⟨jd1, jd2⟩ := zha (Nat.lt_irrefl j);go_wp2_with fail;go_roundw
          case rel => exact ⟨k + j, q + 1, _, r + j, hkm, by first | rfl | (congr 1), rfl, by rw [hfin.out], rfl, HN, zxc hq hm0, hbx⟩
          case measure => exact zkc hm0 hlt
       ·obtain ⟨z0, z1⟩ := ydt hk0;have hG' : r - e - 1 = (G : Int) := by rw [← hGG.out, if_neg hk0]
        have HK := Lib.hid hk0;clear hk0;go_wp2_with fail;refine (zbm G _ (Nat.lt_of_le_of_lt hGl (by decide))).mono ?_;rintro y w3 ⟨rfl, hb3⟩;have hbel3 := (below_drewN hbel (z + nq)).trans (hb3.mono hB);go_wp2_with fail;refine (zbm M _ (Nat.lt_of_le_of_lt hMl (by decide))).mono ?_;rintro y w4 ⟨rfl, hb4⟩;have hbel4 := hbel3.trans (hb4.mono hbel3.size);clear hb3 hb4 hbel3 hbel hall hG' z0 z1 hb1;obtain ⟨S1, hS1⟩ : ∃ S, S = strOf (vput G) := ⟨_, rfl⟩;obtain ⟨S2, hS2⟩ : ∃ S, S = strOf (vput M) := ⟨_, rfl⟩;rw [show (⟨(vput M).toArray⟩ : ByteArray) = S2 from hS2.symm, show (⟨(vput G).toArray⟩ : ByteArray) = S1 from hS1.symm];obtain ⟨f1, f2, f3, f4⟩ := zjo hGl hMl hS1 hS2 (X := X) (Nat.le_trans hXl (Nat.mul_le_mul_left 40 (Nat.le_trans hk h16n)));have hsl := zls b o n c k m hlt hkm hc;obtain ⟨X1, hX1⟩ : ∃ X1, X1 = X ++ (vput G ++ vput M) := ⟨_, rfl⟩;rw [← hX1] at f3 f4;have HX1 := Lib.hid hX1;clear hX1 hS1 hS2;go_wp2_with fail;try rw [f3]
        clear f1 f2 f3 hsl;have hJ := Lib.hid hkm;go_loopw [6, 12, 75] (fun ov _ jv wx => ∃ j : Nat, j ≤ m ∧ jv = .int .i64 j ∧ ov = .string (strOf (X1 ++ times ((zee l k m).take j))) ∧ Below w1.heap.size w1 wx) (fun _ _ jv _ => m - (intOf jv).toNat)
        case atStart => exact ⟨0, Nat.zero_le _, rfl, by simp [times], hbel4⟩
        case round =>
         obtain ⟨j, hj, rfl, rfl, hbx⟩ := hrel;have hBx := hbx.size;by_cases hjm : j < m
         ·obtain ⟨T, y3, x1, x2, x3, x4, x5⟩ := zgi hl1 hris.out hkm hjm hbx;have U1 := u64_in x2;have jn : (0 : Int) ≤ (j : Int) ∧ (j : Int) < (m : Int) := ⟨Int.natCast_nonneg j, Int.ofNat_lt.2 hjm⟩;obtain ⟨jw1, jw2⟩ := zht (j := j) (Nat.le_trans hj hml);obtain ⟨jd1, jd2⟩ := zgv hjm;go_wp2_with fail;refine (zbm T _ (Nat.lt_of_le_of_lt x2 (by decide))).mono ?_;rintro y w5 ⟨rfl, hb5⟩;have hbx5 := (hbx.alloc hBx _).trans (hb5.mono (Nat.le_trans hBx (by simp)));obtain ⟨f5, f6⟩ := ziq (j := j) (m := m) hris.out f4 hml hj x2 x5;rw [show (⟨(vput T).toArray⟩ : ByteArray) = strOf (vput T) from rfl];go_wp2_with fail;go_roundw
          case rel => exact ⟨j + 1, hjm, by first | rfl | (congr 1), by first | rfl | rw [f6], hbx5⟩
          case measure => exact zbx hjm
         ·obtain rfl : j = m := Nat.le_antisymm hj (Nat.not_lt.1 hjm);have c0x := (hbx.cell (p := ⟨b, o + k * 2, none⟩) hb).trans HC0.out;have hfin := Lib.hid (zjy (l := l) (k := k) (m := j) (X := X) HX1.out hJ.out hlen);obtain ⟨jd1, jd2⟩ := zha (Nat.lt_irrefl j);go_wp2_with fail;go_roundw
          case rel => exact ⟨k + j, q + 1, _, r + j, hkm, by first | rfl | (congr 1), rfl, by rw [hfin.out], rfl, HN, zxc hq hm0, hbx⟩
          case measure => exact zkc hm0 hlt
   ·obtain rfl : k = n := Nat.le_antisymm hk (Nat.not_lt.1 hlt);have hd := Lib.hid (ykw hat.out hlen);have hXl := hat.out.len;obtain ⟨jd1, jd2⟩ := zha (Nat.lt_irrefl k);go_wp2_with fail;refine (zbm q _ (Nat.lt_of_le_of_lt (Nat.le_trans hq h16n) (by decide))).mono ?_;rintro y w3 ⟨rfl, hb3⟩;rw [show (⟨(vput q).toArray⟩ : ByteArray) = strOf (vput q) from rfl];obtain ⟨f1, f2⟩ := ybn (q := q) (X := X) (Nat.le_trans hq h16n) (Nat.le_trans hXl (Nat.mul_le_mul_left 40 h16n));go_wp2;go_ret2;rw [hr.out];exact ⟨_, by rw [hd.out]; rfl, .none, hb1.trans ((hbel.trans (hb3.mono hB)).mono hb1.size)⟩
 ·have hr := Lib.hid (zpb hbad);go_enter Tryz.func90, Tryz.ntmps90;go_wp2_with fail;refine (zcn w n c A l hl hn).mono ?_;rintro e w1 ⟨v1, rfl, hv1, hb1⟩;obtain ⟨ty, u, rfl⟩ := zgo hv1 hbad;have HV := Lib.hid hv1;clear hv1 hbad;go_wp2;go_ret2;rw [hr.out];exact ⟨_, rfl, HV.out, hb1⟩
end Go.Proofs.YtkejlnjnoiidnaaGreatDoor
end
