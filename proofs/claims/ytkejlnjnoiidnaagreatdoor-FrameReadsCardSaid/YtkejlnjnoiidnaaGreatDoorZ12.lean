/- The keys that a table and numbers tell, in plain Lean. No program in sight.

The batch that bytes are, in plain Lean. No program in sight.

The tokens, and the text, that bytes are, in plain Lean. No program in sight.

The batch in a frame, in plain Lean. No program in sight.

The Go functions one, More, Sum of package crc and carry, More, Sum of the reference compute what the plain functions of CrcLaw say. No condition but that the numbers fit.

crc.Seal, crc.Open and Seal, Open of the reference say what sealOf and openOf say. -/
import Derived.Test.YtkejlnjnoiidnaaGreatDoorZ1
import Derived.Test.YtkejlnjnoiidnaaGreatDoorZ11
import Derived.Test.YtkejlnjnoiidnaaGreatDoorZ6
import Derived.Test.YtkejlnjnoiidnaaGreatDoorProg
import Derived.Test.YtkejlnjnoiidnaaGreatDoorZ3
import Derived.WalkKit
import Derived.WalkLawsBesides
import Derived.WalkSpells
import Derived.Outline
import Derived.Lib.Hide
import Derived.Laws.BitsAllLaws
import Derived.Test.YtkejlnjnoiidnaaGreatDoorZ2
import Derived.Test.YtkejlnjnoiidnaaGreatDoorZ4
section
namespace Go.Proofs.YtkejlnjnoiidnaaGreatDoor
/-- The first key of a table that stands there twice, from k on. -/
def twiceGo (t : List ByteArray) : List ByteArray → Nat → Int
 | [], _ => -1
 | s :: l, k => if s ∈ t.take k then k else twiceGo t l (k + 1)
def twice (t : List ByteArray) : Int := twiceGo t t 0
/-- Numbers from i on, so many keys being told. -/
def klgo (t : List ByteArray) : List Int → Nat → Nat → List ByteArray → List ByteArray × Int × Int
 | [], _, next, out => if next < t.length then ([], 8, -1) else (out, 0, -1)
 | n :: l, i, next, out => if n < 0 ∨ (t.length : Int) ≤ n then ([], 2, i) else if (next : Int) < n then ([], 13, i) else klgo t l (i + 1) (if n = (next : Int) then next + 1 else next) (out ++ [t.getD n.toNat (strOf [])])
def klist (t : List ByteArray) (a : List Int) : List ByteArray × Int × Int := if 0 ≤ twice t then ([], 9, twice t) else klgo t a 0 0 []
/-- None twice ahead of k. -/
def KT (t : List ByteArray) (k : Nat) : Prop := twice t = twiceGo t (t.drop k) k
theorem KT.zero (t : List ByteArray) : KT t 0 := rfl
theorem kdrop {α : Type} {l : List α} {k : Nat} {x : α} (h : l[k]? = some x) : l.drop k = x :: l.drop (k + 1) := by
 obtain ⟨hk, e⟩ := List.getElem?_eq_some_iff.1 h
 rw [List.drop_eq_getElem_cons hk, e]
theorem KT.hit {t : List ByteArray} {k : Nat} {s : ByteArray} (h : KT t k) (hx : t[k]? = some s) (hs : s ∈ t.take k) : twice t = (k : Int) := by
 unfold KT at h; rw [h, kdrop hx]; simp only [twiceGo]; rw [if_pos hs]
theorem KT.succ {t : List ByteArray} {k : Nat} {s : ByteArray} (h : KT t k) (hx : t[k]? = some s) (hs : ¬ s ∈ t.take k) : KT t (k + 1) := by
 unfold KT at *; rw [h, kdrop hx]; simp only [twiceGo]; rw [if_neg hs]
theorem KT.all {t : List ByteArray} {k : Nat} (h : KT t k) (hk : t.length ≤ k) : twice t = -1 := by
 unfold KT at h; rw [h, List.drop_eq_nil_of_le hk]; rfl
theorem klist_twice {t : List ByteArray} {a : List Int} {k : Nat} (h : twice t = (k : Int)) : klist t a = ([], 9, (k : Int)) := by
 unfold klist; rw [h, if_pos (by omega)]
theorem klist_once {t : List ByteArray} {a : List Int} (h : twice t = -1) : klist t a = klgo t a 0 0 [] := by
 unfold klist; rw [h, if_neg (by omega)]
/-- As it stands ahead of number i. -/
structure KA (t : List ByteArray) (a : List Int) (i next : Nat) (out : List ByteArray) : Prop where
 eq : klgo t a 0 0 [] = klgo t (a.drop i) i next out
 len : out.length = i
 le : next ≤ t.length
 le' : next ≤ i
theorem KA.zero (t : List ByteArray) (a : List Int) : KA t a 0 0 [] := ⟨rfl, rfl, Nat.zero_le _, Nat.zero_le _⟩
section
variable {t : List ByteArray} {a : List Int} {i next : Nat} {out : List ByteArray} {n : Int}
theorem KA.range (h : KA t a i next out) (hx : a[i]? = some n) (h1 : n < 0 ∨ (t.length : Int) ≤ n) : klgo t a 0 0 [] = ([], 2, (i : Int)) := by
 rw [h.eq, kdrop hx]; simp only [klgo]; rw [if_pos h1]
theorem KA.false (h : KA t a i next out) (hx : a[i]? = some n) (h1 : ¬ (n < 0 ∨ (t.length : Int) ≤ n)) (h2 : (next : Int) < n) : klgo t a 0 0 [] = ([], 13, (i : Int)) := by
 rw [h.eq, kdrop hx]; simp only [klgo]; rw [if_neg h1, if_pos h2]
theorem KA.new (h : KA t a i next out) (hx : a[i]? = some n) (h1 : ¬ (n < 0 ∨ (t.length : Int) ≤ n)) (h2 : n = (next : Int)) : KA t a (i + 1) (next + 1) (out ++ [t.getD n.toNat (strOf [])]) := by
 refine ⟨?_, by simp [h.len], by omega, by have := h.le'; omega⟩
 rw [h.eq, kdrop hx]; simp only [klgo]; rw [if_neg h1, if_neg (by omega), if_pos h2]
theorem KA.old (h : KA t a i next out) (hx : a[i]? = some n) (h1 : ¬ (n < 0 ∨ (t.length : Int) ≤ n)) (h2 : n < (next : Int)) : KA t a (i + 1) next (out ++ [t.getD n.toNat (strOf [])]) := by
 refine ⟨?_, by simp [h.len], h.le, by have := h.le'; omega⟩
 rw [h.eq, kdrop hx]; simp only [klgo]; rw [if_neg h1, if_neg (by omega), if_neg (by omega)]
theorem KA.less (h : KA t a i next out) (hi : a.length ≤ i) (h1 : next < t.length) : klgo t a 0 0 [] = ([], 8, -1) := by
 rw [h.eq, List.drop_eq_nil_of_le hi]; simp only [klgo]; rw [if_pos h1]
theorem KA.done (h : KA t a i next out) (hi : a.length ≤ i) (h1 : ¬ next < t.length) : klgo t a 0 0 [] = (out, 0, -1) := by
 rw [h.eq, List.drop_eq_nil_of_le hi]; simp only [klgo]; rw [if_neg h1]
end
end Go.Proofs.YtkejlnjnoiidnaaGreatDoor
end

section
namespace Go.Proofs.YtkejlnjnoiidnaaGreatDoor
set_option linter.unusedVariables false
/-- Byte k. -/
def byteOf (t : ByteArray) (k : Nat) : Nat := (t.data.toList.getD k 0).toNat
theorem byteOf_eq (t : ByteArray) (k : Nat) (h : k < t.size) : byteOf t k = (t[k]).toNat := by
 unfold byteOf
 have hl : k < t.data.toList.length := by simpa using h
 simp [List.getD, List.getElem?_eq_getElem hl]
 rfl
theorem byteOf_lt (t : ByteArray) (k : Nat) : byteOf t k < 256 := UInt8.toNat_lt _
abbrev BR := (List Ent × List Ent × List Wr) × Int × Int
abbrev noB : List Ent × List Ent × List Wr := ([], [], [])
/-- At the end. -/
def bend (s : ByteArray) (f h : List Ent) (T : List ByteArray) (at_ : List Int) (ws : List Wr) (p : Nat) : BR :=
 if p < s.size then (noB, 3, (p : Int))
 else if (klist T at_).2.1 ≠ 0 then (noB, (klist T at_).2.1, (s.size : Int))
 else if (bright f h ws).1 ≠ 0 then (noB, (bright f h ws).1, (s.size : Int))
 else ((f, h, ws), 0, -1)
/-- One write: what is wrong, where (or how far it goes), it, its key's number, its time. -/
abbrev WO := Int × Nat × Wr × Nat × Nat
def bad1 (e : Int) (p : Nat) : WO := (e, p, noWr, 0, 0)
abbrev raw (h : List Ent) (T : List ByteArray) (tm i x kd : Nat) : Wr := ((tm : Int), (h.getD i (0, 0)).1, (kd : Int), T.getD x (strOf []), strOf [], 0)
def wfin (s : ByteArray) (h : List Ent) (T : List ByteArray) (p tm i x kd : Nat) : WO :=
 if (wfill (raw h T tm i x kd) (s.extract p s.size)).2.2 ≠ 0 then bad1 (wfill (raw h T tm i x kd) (s.extract p s.size)).2.2 p
 else (0, p + (wfill (raw h T tm i x kd) (s.extract p s.size)).2.1, (wfill (raw h T tm i x kd) (s.extract p s.size)).1, x, tm)
def wkey (s : ByteArray) (h : List Ent) (T : List ByteArray) (p tm i kd : Nat) : WO :=
 if (vat s p ((T.length : Int) - 1)).2.2 ≠ 0 then bad1 (vat s p ((T.length : Int) - 1)).2.2 p
 else wfin s h T (p + (vat s p ((T.length : Int) - 1)).2.1) tm i (vat s p ((T.length : Int) - 1)).1 kd
def wrep (s : ByteArray) (h : List Ent) (T : List ByteArray) (p tm kd : Nat) : WO :=
 if (vat s p ((h.length : Int) - 1)).2.2 ≠ 0 then bad1 (vat s p ((h.length : Int) - 1)).2.2 p
 else wkey s h T (p + (vat s p ((h.length : Int) - 1)).2.1) tm (vat s p ((h.length : Int) - 1)).1 kd
def wtime (s : ByteArray) (h : List Ent) (T : List ByteArray) (p tm kd : Nat) : WO :=
 if (vat s p 1099511627776).2.2 ≠ 0 then bad1 (vat s p 1099511627776).2.2 p
 else if 1099511627776 < tm + (vat s p 1099511627776).1 then bad1 2 p
 else wrep s h T (p + (vat s p 1099511627776).2.1) (tm + (vat s p 1099511627776).1) kd
def wone (s : ByteArray) (h : List Ent) (T : List ByteArray) (p tm : Nat) : WO :=
 if s.size ≤ p then bad1 7 p
 else if byteOf s p < 1 ∨ 4 < byteOf s p then bad1 1 p
 else wtime s h T (p + 1) tm (byteOf s p)
def bws (s : ByteArray) (f h : List Ent) (T : List ByteArray) : Nat → Nat → Nat → List Int → List Wr → BR
 | 0, p, _, at_, ws => bend s f h T at_ ws p
 | c + 1, p, tm, at_, ws =>
  if (wone s h T p tm).1 ≠ 0 then (noB, (wone s h T p tm).1, ((wone s h T p tm).2.1 : Int))
  else bws s f h T c (wone s h T p tm).2.1 (wone s h T p tm).2.2.2.2 (at_ ++ [((wone s h T p tm).2.2.2.1 : Int)]) (ws ++ [(wone s h T p tm).2.2.1])
def bkeys (s : ByteArray) (f h : List Ent) : Nat → Nat → List ByteArray → BR
 | 0, p, T => if (vat s p 60).2.2 ≠ 0 then (noB, (vat s p 60).2.2, (p : Int)) else bws s f h T (vat s p 60).1 (p + (vat s p 60).2.1) 0 [] []
 | c + 1, p, T => if (unspan (s.extract p s.size)).2.2 ≠ 0 then (noB, (unspan (s.extract p s.size)).2.2, (p : Int)) else bkeys s f h c (p + (unspan (s.extract p s.size)).2.1) (T ++ [(unspan (s.extract p s.size)).1])
def btab (s : ByteArray) (f h : List Ent) (p : Nat) : BR := if (vat s p 60).2.2 ≠ 0 then (noB, (vat s p 60).2.2, (p : Int)) else bkeys s f h (vat s p 60).1 (p + (vat s p 60).2.1) []
def bhave (s : ByteArray) (f : List Ent) (p : Nat) : BR := if (vread (s.extract p s.size)).2.2 ≠ 0 then (noB, (vread (s.extract p s.size)).2.2, (p : Int)) else btab s f (vread (s.extract p s.size)).1 (p + (vread (s.extract p s.size)).2.1)
def bread (s : ByteArray) : BR :=
 if 20000 < s.size then (noB, 4, -1)
 else if (vread s).2.2 ≠ 0 then (noB, (vread s).2.2, 0)
 else bhave s (vread s).1 (vread s).2.1
section
variable {s : ByteArray} {f h : List Ent} {T : List ByteArray} {at_ : List Int} {ws : List Wr} {X : BR} {p tm n k i j x m kd c : Nat} {e : Int} {l : List Ent} {w : Wr} {b : ByteArray}
theorem bread_big (a : 20000 < s.size) : bread s = (noB, 4, -1) := by unfold bread; rw [if_pos a]
theorem bread_from (a : ¬ 20000 < s.size) (hv : vread s = (l, n, e)) (he : e ≠ 0) : bread s = (noB, e, 0) := by unfold bread; rw [if_neg a, hv, if_pos he]
theorem bread_go (a : ¬ 20000 < s.size) (hv : vread s = (l, n, 0)) : bread s = bhave s l n := by unfold bread; rw [if_neg a, hv, if_neg (by simp)]
theorem bhave_bad (hX : X = bhave s f p) (hv : vread (s.extract p s.size) = (l, n, e)) (he : e ≠ 0) : X = (noB, e, (p : Int)) := by rw [hX]; unfold bhave; rw [hv, if_pos he]
theorem bhave_go (hX : X = bhave s f p) (hv : vread (s.extract p s.size) = (l, n, 0)) : X = btab s f l (p + n) := by rw [hX]; unfold bhave; rw [hv, if_neg (by simp)]
theorem btab_bad (hX : X = btab s f h p) (hv : vat s p 60 = (n, k, e)) (he : e ≠ 0) : X = (noB, e, (p : Int)) := by rw [hX]; unfold btab; rw [hv, if_pos he]
theorem btab_go (hX : X = btab s f h p) (hv : vat s p 60 = (n, k, 0)) : X = bkeys s f h n (p + k) [] := by rw [hX]; unfold btab; rw [hv, if_neg (by simp)]
theorem bkeys_bad (hX : X = bkeys s f h (c + 1) p T) (hv : unspan (s.extract p s.size) = (b, n, e)) (he : e ≠ 0) : X = (noB, e, (p : Int)) := by rw [hX]; unfold bkeys; rw [hv, if_pos he]
theorem bkeys_go (hX : X = bkeys s f h (c + 1) p T) (hv : unspan (s.extract p s.size) = (b, n, 0)) : X = bkeys s f h c (p + n) (T ++ [b]) := by rw [hX]; rw [bkeys, hv, if_neg (by simp)]
theorem bkeys_num (hX : X = bkeys s f h 0 p T) (hv : vat s p 60 = (n, k, e)) (he : e ≠ 0) : X = (noB, e, (p : Int)) := by rw [hX]; unfold bkeys; rw [hv, if_pos he]
theorem bkeys_end (hX : X = bkeys s f h 0 p T) (hv : vat s p 60 = (n, k, 0)) : X = bws s f h T n (p + k) 0 [] [] := by rw [hX]; unfold bkeys; rw [hv, if_neg (by simp)]
theorem bws_bad (hX : X = bws s f h T (c + 1) p tm at_ ws) (ho : wone s h T p tm = bad1 e j) (he : e ≠ 0) : X = (noB, e, (j : Int)) := by rw [hX, bws, ho, if_pos (by exact he)]; rfl
theorem bws_go (hX : X = bws s f h T (c + 1) p tm at_ ws) (ho : wone s h T p tm = (0, n, w, x, m)) : X = bws s f h T c n m (at_ ++ [(x : Int)]) (ws ++ [w]) := by rw [hX, bws, ho, if_neg (by simp)]
theorem bws_end (hX : X = bws s f h T 0 p tm at_ ws) : X = bend s f h T at_ ws p := hX
theorem bend_more (hX : X = bend s f h T at_ ws p) (a : p < s.size) : X = (noB, 3, (p : Int)) := by rw [hX]; unfold bend; rw [if_pos a]
theorem bend_list (hX : X = bend s f h T at_ ws p) (a : ¬ p < s.size) (he : (klist T at_).2.1 ≠ 0) : X = (noB, (klist T at_).2.1, (s.size : Int)) := by rw [hX]; unfold bend; rw [if_neg a, if_pos he]
theorem bend_bad (hX : X = bend s f h T at_ ws p) (a : ¬ p < s.size) (he : (klist T at_).2.1 = 0) (h2 : (bright f h ws).1 ≠ 0) : X = (noB, (bright f h ws).1, (s.size : Int)) := by rw [hX]; unfold bend; rw [if_neg a, if_neg (by simp [he]), if_pos h2]
theorem bend_ok (hX : X = bend s f h T at_ ws p) (a : ¬ p < s.size) (he : (klist T at_).2.1 = 0) (h2 : (bright f h ws).1 = 0) : X = ((f, h, ws), 0, -1) := by rw [hX]; unfold bend; rw [if_neg a, if_neg (by simp [he]), if_neg (by simp [h2])]
theorem wone_end (a : s.size ≤ p) : wone s h T p tm = bad1 7 p := by unfold wone; rw [if_pos a]
theorem wone_kind (a : ¬ s.size ≤ p) (b : byteOf s p < 1 ∨ 4 < byteOf s p) : wone s h T p tm = bad1 1 p := by unfold wone; rw [if_neg a, if_pos b]
theorem wone_go (a : ¬ s.size ≤ p) (b : ¬ (byteOf s p < 1 ∨ 4 < byteOf s p)) : wone s h T p tm = wtime s h T (p + 1) tm (byteOf s p) := by unfold wone; rw [if_neg a, if_neg b]
theorem wtime_bad (hv : vat s p 1099511627776 = (n, k, e)) (he : e ≠ 0) : wtime s h T p tm kd = bad1 e p := by unfold wtime; rw [hv, if_pos he]
theorem wtime_over (hv : vat s p 1099511627776 = (n, k, 0)) (a : 1099511627776 < tm + n) : wtime s h T p tm kd = bad1 2 p := by unfold wtime; rw [hv, if_neg (by simp), if_pos a]
theorem wtime_go (hv : vat s p 1099511627776 = (n, k, 0)) (a : ¬ 1099511627776 < tm + n) : wtime s h T p tm kd = wrep s h T (p + k) (tm + n) kd := by unfold wtime; rw [hv, if_neg (by simp), if_neg a]
theorem wrep_bad (hv : vat s p ((h.length : Int) - 1) = (n, k, e)) (he : e ≠ 0) : wrep s h T p tm kd = bad1 e p := by unfold wrep; rw [hv, if_pos he]
theorem wrep_go (hv : vat s p ((h.length : Int) - 1) = (n, k, 0)) : wrep s h T p tm kd = wkey s h T (p + k) tm n kd := by unfold wrep; rw [hv, if_neg (by simp)]
theorem wkey_bad (hv : vat s p ((T.length : Int) - 1) = (n, k, e)) (he : e ≠ 0) : wkey s h T p tm i kd = bad1 e p := by unfold wkey; rw [hv, if_pos he]
theorem wkey_go (hv : vat s p ((T.length : Int) - 1) = (n, k, 0)) : wkey s h T p tm i kd = wfin s h T (p + k) tm i n kd := by unfold wkey; rw [hv, if_neg (by simp)]
theorem wfin_bad (hv : wfill (raw h T tm i x kd) (s.extract p s.size) = (w, n, e)) (he : e ≠ 0) : wfin s h T p tm i x kd = bad1 e p := by unfold wfin; rw [hv, if_pos he]
theorem wfin_go (hv : wfill (raw h T tm i x kd) (s.extract p s.size) = (w, n, 0)) : wfin s h T p tm i x kd = (0, p + n, w, x, tm) := by unfold wfin; rw [hv, if_neg (by simp)]
end
/-- How far a vector goes. -/
theorem vtimes_far {s : ByteArray} : ∀ (c : Nat) (r : Int) (p : Nat) (acc : List Ent), p ≤ s.size → (vtimes s c r p acc).2.1 ≤ s.size := by
 intro c
 induction c with
 | zero => intro r p acc h; exact h
 | succ c ih =>
  intro r p acc h
  simp only [vtimes]
  obtain ⟨n, k, e, ha, hx⟩ := vat_of s p 1099511627776
  rw [ha]
  split
  ·exact Nat.zero_le _
  ·rename_i he
   rcases hx with ⟨_, _, _, _, h4⟩ | ⟨h1, _⟩
   ·exact ih _ _ _ h4
   ·exact absurd h1 he
theorem vruns_far {s : ByteArray} : ∀ (c : Nat) (b : Bool) (r : Int) (p : Nat) (acc : List Ent), p ≤ s.size → (vruns s c b r p acc).2.1 ≤ s.size := by
 intro c
 induction c with
 | zero => intro b r p acc h; exact h
 | succ c ih =>
  intro b r p acc h
  simp only [vruns]
  obtain ⟨n, k, e, ha, hx⟩ := vat_of s p 200
  rw [ha]
  split
  ·exact Nat.zero_le _
  ·rename_i he
   rcases hx with ⟨_, _, _, _, h4⟩ | ⟨h1, _⟩
   ·simp only
    obtain ⟨n', k', e', ha', hx'⟩ := vat_of s (p + k) 16
    rw [ha']
    split
    ·exact Nat.zero_le _
    ·rename_i he'
     rcases hx' with ⟨_, _, _, _, h4'⟩ | ⟨h1, _⟩
     ·generalize (r + (n : Int) + (if b = true then (0 : Int) else 1)) = Z
      split
      ·exact Nat.zero_le _
      ·exact ih _ _ _ _ (vtimes_far _ _ _ _ h4')
     ·exact absurd h1 he'
   ·exact absurd h1 he
theorem vread_far (s : ByteArray) : (vread s).2.1 ≤ s.size := by
 unfold vread
 split
 ·exact Nat.zero_le _
 ·split
  ·exact Nat.zero_le _
  ·unfold vrall
   obtain ⟨n, k, e, ha, hx⟩ := vat_of s 0 16
   rw [ha]
   split
   ·exact Nat.zero_le _
   ·rename_i he
    rcases hx with ⟨_, _, _, _, h4⟩ | ⟨h1, _⟩
    ·exact vruns_far _ _ _ _ _ (by simpa using h4)
    ·exact absurd h1 he
theorem vread_right {s : ByteArray} : (vright (vread s).1).1 = 0 := by
 unfold vread
 split
 ·rfl
 ·split
  ·rfl
  ·rename_i h; simpa using h
theorem wend_far {w : Wr} {k m : Nat} (h : k ≤ m) : (wend w k).2.1 ≤ m := by
 unfold wend
 split
 ·exact Nat.zero_le _
 ·exact h
theorem wfill_far (x : Wr) (s : ByteArray) : (wfill x s).2.1 ≤ s.size := by
 have hu : ∀ t : ByteArray, (unspan t).2.1 ≤ t.size := fun t => by
  rcases unspan_says t with h | ⟨e, h, _⟩
  ·exact h.2.2.1
  ·rw [h]; exact Nat.zero_le _
 have hv : (vget s.data.toList).2.1 ≤ s.size := by
  have hl : s.data.toList.length = s.size := by simp
  rcases vget_says s.data.toList with h | h | h | h
  ·omega
  all_goals rw [h]; exact Nat.zero_le _
 have hi : (vint s.data.toList 1000).2.1 ≤ s.size := by
  have ha : vat s 0 1000 = vint s.data.toList 1000 := by unfold vat; rw [show s.extract 0 s.size = s from ByteArray.extract_zero_size]
  obtain ⟨n, k, e, h, hx⟩ := vat_of s 0 1000
  rw [← ha, h]
  rcases hx with ⟨_, _, _, _, h4⟩ | ⟨_, _, h4⟩
  ·simpa using h4
  ·rw [h4]; exact Nat.zero_le _
 unfold wfill
 split
 ·split
  ·exact Nat.zero_le _
  ·exact wend_far (hu s)
 ·split
  ·split
   ·exact Nat.zero_le _
   ·exact wend_far hv
  ·split
   ·split
    ·exact Nat.zero_le _
    ·split
     ·exact Nat.zero_le _
     ·refine wend_far ?_
      have := hu (s.extract (vint s.data.toList 1000).2.1 s.size)
      rw [ByteArray.size_extract] at this
      omega
   ·exact wend_far (Nat.zero_le _)
end Go.Proofs.YtkejlnjnoiidnaaGreatDoor
end

section
namespace Go.Proofs.YtkejlnjnoiidnaaGreatDoor
/-- The number without a bound at byte p. -/
def uat (s : ByteArray) (p : Nat) : Nat × Nat × Int := vget (s.extract p s.size).data.toList
theorem uat_of (s : ByteArray) (p : Nat) : ∃ (n k : Nat) (e : Int), uat s p = (n, k, e) ∧ (e = 0 ∧ n < 18446744073709551616 ∧ 0 < k ∧ k ≤ 10 ∧ p + k ≤ s.size ∨ e ≠ 0 ∧ n = 0 ∧ k = 0) := by
 have el : (s.extract p s.size).data.toList.length = s.size - p := by simp
 rcases vget_says (s.extract p s.size).data.toList with ⟨h0, h1, h2, h3, h4⟩ | h | h | h
 ·refine ⟨(uat s p).1, (uat s p).2.1, (uat s p).2.2, rfl, .inl ⟨h0, h1, h2, h3, ?_⟩⟩
  unfold uat
  omega
 ·exact ⟨0, 0, 3, h, .inr ⟨by omega, rfl, rfl⟩⟩
 ·exact ⟨0, 0, 4, h, .inr ⟨by omega, rfl, rfl⟩⟩
 ·exact ⟨0, 0, 7, h, .inr ⟨by omega, rfl, rfl⟩⟩
/-- Tokens, where they begin, what is wrong, where. -/
abbrev LR := List Tok × List Int × Int × Int
def lgo (s : ByteArray) : Nat → Nat → List Tok → List Int → LR
 | 0, _, acc, st => (acc, st, 0, -1)
 | f + 1, p, acc, st =>
  if s.size ≤ p then (acc, st, 0, -1)
  else if (uat s p).2.2 ≠ 0 then ([], [], (uat s p).2.2, (p : Int))
  else if (uat s p).1 % 2 = 0 then
   if (uat s p).1 / 2 = 0 then ([], [], 3, (p : Int))
   else if s.size < p + (uat s p).2.1 + (uat s p).1 / 2 then ([], [], 7, (s.size : Int))
   else lgo s f (p + (uat s p).2.1 + (uat s p).1 / 2) (acc ++ [(s.extract (p + (uat s p).2.1) (p + (uat s p).2.1 + (uat s p).1 / 2), 0, 0)]) (st ++ [(p : Int)])
  else if 63 < (uat s p).1 / 2 then ([], [], 2, (p : Int))
  else if (vat s (p + (uat s p).2.1) 1023).2.2 ≠ 0 then ([], [], (vat s (p + (uat s p).2.1) 1023).2.2, ((p + (uat s p).2.1 : Nat) : Int))
  else lgo s f (p + (uat s p).2.1 + (vat s (p + (uat s p).2.1) 1023).2.1) (acc ++ [(⟨#[]⟩, ((vat s (p + (uat s p).2.1) 1023).1 : Int) + 1, (((uat s p).1 / 2 : Nat) : Int) + 4)]) (st ++ [(p : Int)])
/-- As it stands at byte p. -/
def LAt (s : ByteArray) (X : LR) (p : Nat) (acc : List Tok) (st : List Int) : Prop := ∃ f, s.size < p + f ∧ X = lgo s f p acc st
def lrall (s : ByteArray) : LR := lgo s (s.size + 1) 0 [] []
section
variable {s : ByteArray} {X : LR} {p n k m j : Nat} {e : Int} {acc : List Tok} {st : List Int}
theorem LAt.start (s : ByteArray) : LAt s (lrall s) 0 [] [] := ⟨s.size + 1, by omega, rfl⟩
theorem LAt.fuel (h : LAt s X p acc st) (hp : p < s.size) : ∃ f, s.size < p + (f + 1) ∧ X = lgo s (f + 1) p acc st := by
 obtain ⟨f, h1, h2⟩ := h
 cases f with
 | zero => omega
 | succ f => exact ⟨f, h1, h2⟩
theorem LAt.done (h : LAt s X p acc st) (hp : s.size ≤ p) : X = (acc, st, 0, -1) := by
 obtain ⟨f, h1, rfl⟩ := h
 cases f with
 | zero => rfl
 | succ f => simp only [lgo]; rw [if_pos hp]
theorem LAt.num (h : LAt s X p acc st) (hp : p < s.size) (ha : uat s p = (n, k, e)) (he : e ≠ 0) : X = ([], [], e, (p : Int)) := by
 obtain ⟨f, h1, rfl⟩ := h.fuel hp
 simp only [lgo]; rw [if_neg (by omega), ha, if_pos he]
theorem LAt.form (h : LAt s X p acc st) (hp : p < s.size) (ha : uat s p = (n, k, 0)) (h2 : n % 2 = 0) (h0 : n / 2 = 0) : X = ([], [], 3, (p : Int)) := by
 obtain ⟨f, h1, rfl⟩ := h.fuel hp
 simp only [lgo]; rw [if_neg (by omega), ha, if_neg (by simp), if_pos h2, if_pos h0]
theorem LAt.miss (h : LAt s X p acc st) (hp : p < s.size) (ha : uat s p = (n, k, 0)) (h2 : n % 2 = 0) (h0 : n / 2 ≠ 0) (h3 : s.size < p + k + n / 2) : X = ([], [], 7, (s.size : Int)) := by
 obtain ⟨f, h1, rfl⟩ := h.fuel hp
 simp only [lgo]; rw [if_neg (by omega), ha, if_neg (by simp), if_pos h2, if_neg h0, if_pos h3]
theorem LAt.own (h : LAt s X p acc st) (hp : p < s.size) (ha : uat s p = (n, k, 0)) (h2 : n % 2 = 0) (h0 : n / 2 ≠ 0) (h3 : ¬ s.size < p + k + n / 2) :
  LAt s X (p + k + n / 2) (acc ++ [(s.extract (p + k) (p + k + n / 2), 0, 0)]) (st ++ [(p : Int)]) := by
 obtain ⟨f, h1, rfl⟩ := h.fuel hp
 refine ⟨f, by omega, ?_⟩
 simp only [lgo]; rw [if_neg (by omega), ha, if_neg (by simp), if_pos h2, if_neg h0, if_neg h3]
theorem LAt.range (h : LAt s X p acc st) (hp : p < s.size) (ha : uat s p = (n, k, 0)) (h2 : ¬ n % 2 = 0) (h3 : 63 < n / 2) : X = ([], [], 2, (p : Int)) := by
 obtain ⟨f, h1, rfl⟩ := h.fuel hp
 simp only [lgo]; rw [if_neg (by omega), ha, if_neg (by simp), if_neg h2, if_pos h3]
theorem LAt.back (h : LAt s X p acc st) (hp : p < s.size) (ha : uat s p = (n, k, 0)) (h2 : ¬ n % 2 = 0) (h3 : ¬ 63 < n / 2) (hb : vat s (p + k) 1023 = (m, j, e)) (he : e ≠ 0) : X = ([], [], e, ((p + k : Nat) : Int)) := by
 obtain ⟨f, h1, rfl⟩ := h.fuel hp
 simp only [lgo]; rw [if_neg (by omega), ha, if_neg (by simp), if_neg h2, if_neg h3]
 simp only
 rw [hb, if_pos he]
theorem LAt.rep (h : LAt s X p acc st) (hp : p < s.size) (ha : uat s p = (n, k, 0)) (hk : 0 < k) (h2 : ¬ n % 2 = 0) (h3 : ¬ 63 < n / 2) (hb : vat s (p + k) 1023 = (m, j, 0)) :
  LAt s X (p + k + j) (acc ++ [(⟨#[]⟩, (m : Int) + 1, ((n / 2 : Nat) : Int) + 4)]) (st ++ [(p : Int)]) := by
 obtain ⟨f, h1, rfl⟩ := h.fuel hp
 refine ⟨f, by omega, ?_⟩
 simp only [lgo]; rw [if_neg (by omega), ha, if_neg (by simp), if_neg h2, if_neg h3]
 simp only
 rw [hb, if_neg (by simp)]
end
theorem trgo_err (l : List Tok) : ∀ (n i : Nat), (trgo l n i).1 ≠ 0 → ∃ k : Nat, (trgo l n i).2 = ((i + k : Nat) : Int) ∧ k < l.length := by
 induction l with
 | nil => intro n i h; exact absurd rfl h
 | cons t l ih =>
  intro n i h
  have step : ∀ n', (trgo l n' (i + 1)).1 ≠ 0 → ∃ k : Nat, (trgo l n' (i + 1)).2 = ((i + k : Nat) : Int) ∧ k < (t :: l).length := fun n' h' => by
   obtain ⟨k, h1, h2⟩ := ih n' (i + 1) h'
   exact ⟨k + 1, by rw [h1]; congr 1; omega, by simp; omega⟩
  have z : ∀ e : Int, ∃ k : Nat, ((e, (i : Int)) : Int × Int).2 = ((i + k : Nat) : Int) ∧ k < (t :: l).length := fun e => ⟨0, rfl, by simp⟩
  unfold trgo at h ⊢
  split
  ·exact z _
  ·rename_i h1
   rw [if_neg h1] at h
   split
   ·rename_i h2
    rw [if_pos h2] at h
    split
    ·exact z _
    ·rename_i h3
     rw [if_neg h3] at h
     exact step _ h
   ·rename_i h2
    rw [if_neg h2] at h
    split
    ·exact z _
    ·rename_i h3
     rw [if_neg h3] at h
     split
     ·exact z _
     ·rename_i h4
      rw [if_neg h4] at h
      split
      ·exact z _
      ·rename_i h5
       rw [if_neg h5] at h
       exact step _ h
theorem tright_err {l : List Tok} (h : (tright l).1 ≠ 0) : ∃ k : Nat, (tright l).2 = (k : Int) ∧ k < l.length := by
 obtain ⟨k, h1, h2⟩ := trgo_err l 0 0 h
 exact ⟨k, by rw [tright, h1]; congr 1; omega, h2⟩
/-- The tokens, what is wrong, where. -/
def lread (s : ByteArray) : List Tok × Int × Int :=
 if (lrall s).2.2.1 ≠ 0 then ([], (lrall s).2.2.1, (lrall s).2.2.2)
 else if (tright (lrall s).1).1 ≠ 0 then ([], (tright (lrall s).1).1, (lrall s).2.1.getD (tright (lrall s).1).2.toNat 0)
 else ((lrall s).1, 0, -1)
theorem lread_bad {s : ByteArray} {X : LR} {e p : Int} (hX : lrall s = X) (h : X = ([], [], e, p)) (he : e ≠ 0) : lread s = ([], e, p) := by
 unfold lread; rw [hX, h, if_pos he]
theorem lread_false {s : ByteArray} {X : LR} {l : List Tok} {st : List Int} (hX : lrall s = X) (h : X = (l, st, 0, -1)) (he : (tright l).1 ≠ 0) : lread s = ([], (tright l).1, st.getD (tright l).2.toNat 0) := by
 unfold lread; rw [hX, h, if_neg (by simp), if_pos he]
theorem lread_good {s : ByteArray} {X : LR} {l : List Tok} {st : List Int} (hX : lrall s = X) (h : X = (l, st, 0, -1)) (he : (tright l).1 = 0) : lread s = (l, 0, -1) := by
 unfold lread; rw [hX, h, if_neg (by simp), if_neg (by simpa using he)]
/-- The text, what is wrong, where. -/
def lswell (s : ByteArray) : ByteArray × Int × Int := if (lread s).2.1 ≠ 0 then (⟨#[]⟩, (lread s).2) else textOf (lread s).1
end Go.Proofs.YtkejlnjnoiidnaaGreatDoor
end

section
namespace Go.Proofs.YtkejlnjnoiidnaaGreatDoor
set_option linter.unusedVariables false
/-- Which version a frame is of, and what is wrong. -/
def fver (s : ByteArray) : Int × Int :=
 if s.size < 8 then (0, 7)
 else if s.extract 0 2 ≠ ⟨#[80, 84]⟩ then (0, 5)
 else if byteOf s 2 < 1 ∨ 3 < byteOf s 2 then (0, 8)
 else if (openOf s).2 ≠ 0 then (0, (openOf s).2) else ((byteOf s 2 : Int), 0)
section
variable {s : ByteArray}
theorem fver_short (h : s.size < 8) : fver s = (0, 7) := by unfold fver; rw [if_pos h]
theorem fver_name (h : ¬ s.size < 8) (h2 : s.extract 0 2 ≠ ⟨#[80, 84]⟩) : fver s = (0, 5) := by unfold fver; rw [if_neg h, if_pos h2]
theorem fver_none (h : ¬ s.size < 8) (h2 : s.extract 0 2 = ⟨#[80, 84]⟩) (h3 : byteOf s 2 < 1 ∨ 3 < byteOf s 2) : fver s = (0, 8) := by unfold fver; rw [if_neg h, if_neg (by simp [h2]), if_pos h3]
theorem fver_open (h : ¬ s.size < 8) (h2 : s.extract 0 2 = ⟨#[80, 84]⟩) (h3 : ¬ (byteOf s 2 < 1 ∨ 3 < byteOf s 2)) {e : Int} {t : ByteArray} (ho : openOf s = (t, e)) (he : e ≠ 0) : fver s = (0, e) := by unfold fver; rw [if_neg h, if_neg (by simp [h2]), if_neg h3, ho, if_pos he]
theorem fver_ok (h : ¬ s.size < 8) (h2 : s.extract 0 2 = ⟨#[80, 84]⟩) (h3 : ¬ (byteOf s 2 < 1 ∨ 3 < byteOf s 2)) {t : ByteArray} (ho : openOf s = (t, 0)) : fver s = ((byteOf s 2 : Int), 0) := by unfold fver; rw [if_neg h, if_neg (by simp [h2]), if_neg h3, ho, if_neg (by simp)]
/-- A frame without its sum. -/
abbrev fbody (s : ByteArray) : ByteArray := s.extract 0 (s.size - 4)
/-- A frame whose version is right has eight bytes, and its sum is right. -/
theorem fver_good {v : Int} (h : fver s = (v, 0)) : 8 ≤ s.size ∧ openOf s = (fbody s, 0) ∧ (v = 1 ∨ v = 2 ∨ v = 3) ∧ v = (byteOf s 2 : Int) := by
 unfold fver at h
 split at h
 ·injection h with _ h; omega
 ·split at h
  ·injection h with _ h; omega
  ·split at h
   ·injection h with _ h; omega
   ·split at h
    ·rename_i h9; injection h with _ h; omega
    ·rename_i h1 h2 h3 h4
     injection h with h5 _
     refine ⟨by omega, ?_, by omega, h5.symm⟩
     by_cases hs : sealOf (s.extract 0 (s.size - 4)) = s
     ·exact open_good (by omega) hs
     ·rw [open_bad (by omega) hs] at h4; simp at h4
theorem fbody_size (h : 8 ≤ s.size) : (fbody s).size = s.size - 4 := by rw [ByteArray.size_extract]; omega
theorem fbody_three (h : 8 ≤ s.size) : (fbody s).extract 3 (fbody s).size = s.extract 3 (s.size - 4) := by
 rw [fbody_size h, ByteArray.extract_extract]; congr 1 <;> omega
theorem cut_one {t : ByteArray} (a k : Nat) : (t.extract 3 t.size).extract (1 + k) (t.extract 3 t.size).size = t.extract (4 + k) t.size := by
 rw [ByteArray.extract_extract, ByteArray.size_extract]; congr 1 <;> omega
theorem byteOf_cut {a b i : Nat} (hb : b ≤ s.size) (hi : a + i < b) : byteOf (s.extract a b) i = byteOf s (a + i) := by
 rw [byteOf_eq _ _ (by rw [ByteArray.size_extract]; omega), byteOf_eq _ _ (by omega)]
 simp [ByteArray.getElem_extract]
def ufRead (s : ByteArray) (b : BR) : BR := if b.2.1 ≠ 0 then (noB, b.2) else if (frameOf (bwrite b.1.1 b.1.2.1 b.1.2.2)).1 ≠ s then (noB, 13, -1) else b
def ufLen (s : ByteArray) (n : Nat) (t : ByteArray) : BR := if t.size ≠ n then (noB, 2, -1) else ufRead s (bread t)
def ufText (s : ByteArray) (n : Nat) (t : ByteArray) : BR := if byteOf s 3 = 1 then (if (lswell t).2.1 ≠ 0 then (noB, (lswell t).2.1, -1) else ufLen s n (lswell t).1) else ufLen s n t
def ufNum (s : ByteArray) (x : Nat × Nat × Int) : BR := if x.2.2 ≠ 0 then (noB, x.2.2, -1) else ufText s x.1 ((fbody s).extract (4 + x.2.1) (fbody s).size)
def unframe (s : ByteArray) : BR :=
 if (fver s).2 ≠ 0 then (noB, (fver s).2, -1)
 else if (fver s).1 ≠ 3 then (noB, 6, -1)
 else if 1 < byteOf s 3 then (noB, 3, -1) else ufNum s (vat (fbody s) 4 20000)
variable {X : BR} {n k : Nat} {v e p : Int} {t u : ByteArray}
theorem uf_ver (hv : fver s = (v, e)) (he : e ≠ 0) : unframe s = (noB, e, -1) := by unfold unframe; rw [hv, if_pos he]
theorem uf_state (hv : fver s = (v, 0)) (h3 : v ≠ 3) : unframe s = (noB, 6, -1) := by unfold unframe; rw [hv, if_neg (by simp), if_pos h3]
theorem uf_form (hv : fver s = (3, 0)) (h : 1 < byteOf s 3) : unframe s = (noB, 3, -1) := by unfold unframe; rw [hv, if_neg (by simp), if_neg (by simp), if_pos h]
theorem uf_int (hv : fver s = (3, 0)) (h : ¬ 1 < byteOf s 3) (ha : vat (fbody s) 4 20000 = (n, k, e)) (he : e ≠ 0) : unframe s = (noB, e, -1) := by unfold unframe; rw [hv, if_neg (by simp), if_neg (by simp), if_neg h, ha]; unfold ufNum; rw [if_pos he]
theorem uf_text (hv : fver s = (3, 0)) (h : ¬ 1 < byteOf s 3) (ha : vat (fbody s) 4 20000 = (n, k, 0)) : unframe s = ufText s n ((fbody s).extract (4 + k) (fbody s).size) := by unfold unframe; rw [hv, if_neg (by simp), if_neg (by simp), if_neg h, ha]; unfold ufNum; rw [if_neg (by simp)]
theorem uf_swell (hX : X = ufText s n t) (h : byteOf s 3 = 1) (hl : lswell t = (u, e, p)) (he : e ≠ 0) : X = (noB, e, -1) := by rw [hX]; unfold ufText; rw [if_pos h, hl, if_pos he]
theorem uf_swollen (hX : X = ufText s n t) (h : byteOf s 3 = 1) (hl : lswell t = (u, 0, p)) : X = ufLen s n u := by rw [hX]; unfold ufText; rw [if_pos h, hl, if_neg (by simp)]
theorem uf_plain (hX : X = ufText s n t) (h : ¬ byteOf s 3 = 1) : X = ufLen s n t := by rw [hX]; unfold ufText; rw [if_neg h]
theorem uf_len (hX : X = ufLen s n t) (h : t.size ≠ n) : X = (noB, 2, -1) := by rw [hX]; unfold ufLen; rw [if_pos h]
theorem uf_read (hX : X = ufLen s n t) (h : ¬ t.size ≠ n) : X = ufRead s (bread t) := by rw [hX]; unfold ufLen; rw [if_neg h]
theorem uf_bad (hX : X = ufRead s (bread t)) (h : (bread t).2.1 ≠ 0) : X = (noB, (bread t).2) := by rw [hX]; unfold ufRead; rw [if_pos h]
theorem uf_false (hX : X = ufRead s (bread t)) (h : ¬ (bread t).2.1 ≠ 0) (h2 : (frameOf (bwrite (bread t).1.1 (bread t).1.2.1 (bread t).1.2.2)).1 ≠ s) : X = (noB, 13, -1) := by rw [hX]; unfold ufRead; rw [if_neg h, if_pos h2]
theorem uf_ok (hX : X = ufRead s (bread t)) (h : ¬ (bread t).2.1 ≠ 0) (h2 : ¬ (frameOf (bwrite (bread t).1.1 (bread t).1.2.1 (bread t).1.2.2)).1 ≠ s) : X = bread t := by rw [hX]; unfold ufRead; rw [if_neg h, if_neg h2]
end
/-- What is read is right. -/
def BRight (x : BR) : Prop := x.2.1 = 0 → (bright x.1.1 x.1.2.1 x.1.2.2).1 = 0
theorem BRight.no {e q : Int} : BRight (noB, e, q) := fun _ => rfl
theorem bend_right (s : ByteArray) (f h : List Ent) (T : List ByteArray) (at_ : List Int) (ws : List Wr) (p : Nat) : BRight (bend s f h T at_ ws p) := by
 unfold bend
 split
 ·exact .no
 ·split
  ·exact .no
  ·split
   ·exact .no
   ·rename_i h1; intro _; simpa using h1
theorem bws_right (s : ByteArray) (f h : List Ent) (T : List ByteArray) : ∀ (c p tm : Nat) (at_ : List Int) (ws : List Wr), BRight (bws s f h T c p tm at_ ws) := by
 intro c
 induction c with
 | zero => intro p tm at_ ws; exact bend_right s f h T at_ ws p
 | succ c ih =>
  intro p tm at_ ws
  rw [bws]
  split
  ·exact .no
  ·exact ih _ _ _ _
theorem bkeys_right (s : ByteArray) (f h : List Ent) : ∀ (c p : Nat) (T : List ByteArray), BRight (bkeys s f h c p T) := by
 intro c
 induction c with
 | zero =>
  intro p T
  rw [bkeys]
  split
  ·exact .no
  ·exact bws_right _ _ _ _ _ _ _ _ _
 | succ c ih =>
  intro p T
  rw [bkeys]
  split
  ·exact .no
  ·exact ih _ _
theorem bread_ok (s : ByteArray) : BRight (bread s) := by
 unfold bread
 split
 ·exact .no
 ·split
  ·exact .no
  ·unfold bhave
   split
   ·exact .no
   ·unfold btab
    split
    ·exact .no
    ·exact bkeys_right _ _ _ _ _ _
theorem fits_of {l : List Ent} (h : (vright l).1 = 0) : ∀ y ∈ l, entFits y := by
 intro y hy
 have := (vright_ok h).1 y hy
 unfold entBad at this
 unfold entFits
 omega
/-- How long a text is that tokens make. -/
theorem tok_len : ∀ (l : List Tok) (out : List UInt8), TOk l out.length → (l.foldl tstep out).length ≤ 20000 := by
 intro l
 induction l with
 | nil => intro out h; exact h
 | cons t l ih =>
  intro out h
  simp only [List.foldl_cons]
  refine ih _ ?_
  rcases h with ⟨h1, _, _, _, h⟩ | ⟨h1, _, _, _, _, _, _, h⟩
  ·unfold tstep
   rw [if_pos h1, List.length_append]
   have : t.1.data.toList.length = t.1.size := by simp
   rw [this]; exact h
  ·unfold tstep
   rw [if_neg (by omega), rep_len]; exact h
theorem text_len (l : List Tok) : (textOf l).1.size ≤ 20000 := by
 unfold textOf
 split
 ·exact Nat.zero_le _
 ·rename_i h
  have := tok_len l [] (tright_ok (by simpa using h))
  show (ttext l).toArray.size ≤ _
  unfold ttext
  simpa using this
theorem swell_len (s : ByteArray) : (lswell s).1.size ≤ 20000 := by
 unfold lswell
 split
 ·exact Nat.zero_le _
 ·exact text_len _
end Go.Proofs.YtkejlnjnoiidnaaGreatDoor
end

section
namespace Go.Proofs.YtkejlnjnoiidnaaGreatDoor.Crc
open Go.RowKit
theorem retI {k : IntKind} {a b : Int} (h : a = b) : Ending.returned (.int k a) = .returned (.int k b) := by rw [h]
theorem valI {k : IntKind} {a b : Int} (h : a = b) : Value.int k a = .int k b := by rw [h]

theorem and_one (m : Nat) (h : m < 4294967296) : bits BinOp.and IntKind.u32 (m : Int) 1 = ((m % 2 : Nat) : Int) := by
 have e := u32_and_nat m 1 h (by omega)
 rw [nat_mask1] at e
 exact e
theorem xor_poly (m : Nat) (h : m < 4294967296) : bits BinOp.xor IntKind.u32 ((m : Int) / 2) 2197175160 = ((m / 2 ^^^ poly : Nat) : Int) := by
 have e := u32_xor_nat (m / 2) poly (by omega) poly_lt
 have e1 : ((m / 2 : Nat) : Int) = (m : Int) / 2 := by omega
 rw [e1] at e
 exact e
theorem stp_odd (m : Nat) (h : m < 4294967296) (t : (bits BinOp.and IntKind.u32 (m : Int) 1 == 1) = true) :
  bits BinOp.xor IntKind.u32 ((m : Int) / 2) 2197175160 = (stp m : Int) := by
 rw [and_one m h] at t
 have t' : m % 2 = 1 := by
  have := beq_iff_eq.1 t
  omega
 rw [xor_poly m h]
 unfold stp
 rw [if_pos t']
theorem stp_even (m : Nat) (h : m < 4294967296) (t : (bits BinOp.and IntKind.u32 (m : Int) 1 == 1) = false) :
  (m : Int) / 2 = (stp m : Int) := by
 rw [and_one m h] at t
 have t' : m % 2 ≠ 1 := by
  have := beq_eq_false_iff_ne.1 t
  omega
 unfold stp
 rw [if_neg t']
 omega

theorem one_any (n : Nat) (w : World) (h : n < 4294967296) :
  Calls Tryz.prog 145 #[.int .u32 (n : Int)] w fun e w' => e = .returned (.int .u32 (one n : Int)) ∧ w = w' := by
 go_enter Tryz.func145, Tryz.ntmps145
 go_wp2
 go_loop [0, 3] (fun v i => ∃ k : Nat, k ≤ 8 ∧ i = .int .i64 k ∧ v = .int .u32 (iter k n : Int)) (fun _ i => 8 - (intOf i).toNat)
 case atStart => exact ⟨0, by omega, rfl, rfl⟩
 case round =>
  obtain ⟨k, hk, rfl, rfl⟩ := hrel
  have hb := iter_lt k h
  have hs := Lib.hid (iter_succ k n)
  go_wp2
  ·go_round
   case rel => exact ⟨k + 1, by omega, by go_num, valI (by rw [hs.out]; exact stp_odd _ hb (by assumption))⟩
   case measure => simp [intOf]; omega
  ·go_round
   case rel => exact ⟨k + 1, by omega, by go_num, valI (by rw [hs.out]; exact stp_even _ hb (by assumption))⟩
   case measure => simp [intOf]; omega
  ·go_ret
   obtain rfl : k = 8 := by omega
   exact ⟨rfl, rfl⟩

/- Complements. -/
theorem not_u32 (m : Nat) (h : m < 4294967296) : bits BinOp.xor IntKind.u32 IntKind.u32.max (m : Int) = ((4294967295 - m : Nat) : Int) := by
 show IntKind.u32.wrap ((BitVec.ofInt 32 IntKind.u32.max ^^^ BitVec.ofInt 32 (m : Int)).toNat : Int) = _
 have h1 : BitVec.ofInt 32 IntKind.u32.max = BitVec.allOnes 32 := by decide
 rw [h1, BitVec.allOnes_xor, BitVec.toNat_not, ofInt_u32 m h, IntKind.wrap_u32']
 omega
theorem byte_at (s : ByteArray) (k : Nat) (h : k < s.size) : (s.data.toList.getD k 0) = s[k] := by
 have h' : k < s.data.toList.length := by simpa using h
 simp only [List.getD, List.getElem?_eq_getElem h', Option.getD_some]
 rfl
theorem byte_in (n : Nat) (b : UInt8) (h : n < 4294967296) :
  bits BinOp.xor IntKind.u32 (bits BinOp.and IntKind.u32 (n : Int) 255) ((b.toNat : Int) % 4294967296) = ((n % 256 ^^^ b.toNat : Nat) : Int) := by
 have hb := b.toNat_lt
 have e := u32_and_nat n 255 h (by omega)
 rw [nat_mask8] at e
 have e1 : (b.toNat : Int) % 4294967296 = (b.toNat : Int) := by omega
 rw [e1]
 have e2 : bits BinOp.and IntKind.u32 (n : Int) 255 = ((n % 256 : Nat) : Int) := e
 rw [e2]
 exact u32_xor_nat _ _ (by omega) (by omega)
theorem byte_in_lt (n : Nat) (b : UInt8) : n % 256 ^^^ b.toNat < 4294967296 := by
 have := Nat.xor_lt_two_pow (n := 8) (x := n % 256) (y := b.toNat) (by omega) b.toNat_lt
 omega
theorem byte_out (n : Nat) (b : UInt8) (h : n < 4294967296) :
  bits BinOp.xor IntKind.u32 (one (n % 256 ^^^ b.toNat) : Int) ((n : Int) / 256) = (byteStep n b.toNat : Int) := by
 have e1 : (n : Int) / 256 = ((n / 256 : Nat) : Int) := by omega
 rw [e1]
 exact u32_xor_nat _ _ (iter_lt 8 (byte_in_lt n b)) (by omega)
theorem take_snoc (s : ByteArray) (k : Nat) (h : k < s.size) : s.data.toList.take (k + 1) = s.data.toList.take k ++ [s[k]] := by
 rw [List.take_succ_eq_append_getElem (by simpa using h)]; rfl
theorem run_step (n : Nat) (s : ByteArray) (k : Nat) (h : k < s.size) : run n (s.data.toList.take (k + 1)) = byteStep (run n (s.data.toList.take k)) s[k].toNat := by
 rw [take_snoc s k h, run_snoc]

def more (n : Nat) (l : List UInt8) : Nat := 4294967295 - run (4294967295 - n) l

theorem more_any (n : Nat) (s : ByteArray) (w : World) (hn : n < 4294967296) (hs : s.size ≤ maxLen) :
  Calls Tryz.prog 126 #[.int .u32 (n : Int), .string s] w fun e w' => e = .returned (.int .u32 (more n s.data.toList : Int)) ∧ w = w' := by
 unfold maxLen at hs
 go_enter Tryz.func126, Tryz.ntmps126
 go_wp2
 go_loop [0, 5, 10] (fun v _ i => ∃ k : Nat, k ≤ s.size ∧ i = .int .i64 k ∧ v = .int .u32 (run (4294967295 - n) (s.data.toList.take k) : Int)) (fun _ _ i => s.size - (intOf i).toNat)
 case atStart => exact ⟨0, by omega, rfl, valI (not_u32 n hn)⟩
 case round =>
  obtain ⟨k, hk, rfl, rfl⟩ := hrel
  have hb := run_lt (n := 4294967295 - n) (by omega) (s.data.toList.take k)
  by_cases hlt : k < s.size
  ·have hstep := Lib.hid (run_step (4294967295 - n) s k hlt)
   have hout := Lib.hid (byte_out (run (4294967295 - n) (s.data.toList.take k)) s[k] hb)
   have hin := Lib.hid (byte_in (run (4294967295 - n) (s.data.toList.take k)) s[k] hb)
   go_wp2_with fail
   rw [hin.out]
   refine (one_any _ _ (byte_in_lt _ _)).mono ?_
   rintro e w' ⟨rfl, rfl⟩
   go_wp2_with fail
   go_round
   case rel => exact ⟨k + 1, by omega, by go_num, valI (by rw [hstep.out]; exact hout.out)⟩
   case measure => simp [intOf]; omega
  ·obtain rfl : k = s.size := by omega
   go_wp2_with fail
   go_ret
   have e : s.data.toList.take s.size = s.data.toList := List.take_of_length_le (by simp)
   rw [e] at hb ⊢
   exact ⟨retI (not_u32 _ hb), rfl⟩
theorem bit_at (n : Nat) (b : UInt8) (j : Nat) (h : n < 4294967296) :
  bits BinOp.xor IntKind.u32 (bits BinOp.and IntKind.u32 (n : Int) 1) (bits BinOp.and IntKind.u32 ((b.toNat : Int) / 2 ^ j % 4294967296) 1) = ((n % 2 ^^^ (b.toNat / 2 ^ j % 2) : Nat) : Int) := by
 have hb := b.toNat_lt
 have hd : b.toNat / 2 ^ j ≤ b.toNat := Nat.div_le_self _ _
 have e1 : (b.toNat : Int) / 2 ^ j % 4294967296 = ((b.toNat / 2 ^ j : Nat) : Int) := by
  have e0 : ((b.toNat / 2 ^ j : Nat) : Int) = (b.toNat : Int) / 2 ^ j := by simp
  rw [← e0]
  generalize b.toNat / 2 ^ j = q at hd ⊢
  omega
 rw [e1, and_one n h, and_one _ (by omega)]
 exact u32_xor_nat _ _ (by omega) (by omega)
theorem carry_yes (n : Nat) (s : ByteArray) (k : Nat) (h : n < 4294967296) (hlt : k < 8 * s.size) (h8 : k / 8 < s.size)
  (t : (bits BinOp.xor IntKind.u32 (bits BinOp.and IntKind.u32 (carried n s.data.toList k : Int) 1) (bits BinOp.and IntKind.u32 ((s[k / 8].toNat : Int) / 2 ^ (k % 8) % 4294967296) 1) == 1) = true) :
  bits BinOp.xor IntKind.u32 ((carried n s.data.toList k : Int) / 2) 2197175160 = (carried n s.data.toList (k + 1) : Int) := by
 have hc := carried_lt h s.data.toList k
 rw [bit_at _ _ _ hc] at t
 have t' := beq_iff_eq.1 t
 rw [xor_poly _ hc, carried_succ n _ k (by simpa using hlt), bitStep_ref _ _ (by omega), byte_at s _ h8, if_pos (by omega)]
theorem carry_no (n : Nat) (s : ByteArray) (k : Nat) (h : n < 4294967296) (hlt : k < 8 * s.size) (h8 : k / 8 < s.size)
  (t : (bits BinOp.xor IntKind.u32 (bits BinOp.and IntKind.u32 (carried n s.data.toList k : Int) 1) (bits BinOp.and IntKind.u32 ((s[k / 8].toNat : Int) / 2 ^ (k % 8) % 4294967296) 1) == 1) = false) :
  (carried n s.data.toList k : Int) / 2 = (carried n s.data.toList (k + 1) : Int) := by
 have hc := carried_lt h s.data.toList k
 rw [bit_at _ _ _ hc] at t
 have t' := beq_eq_false_iff_ne.1 t
 rw [carried_succ n _ k (by simpa using hlt), bitStep_ref _ _ (by omega), byte_at s _ h8, if_neg (by omega)]
 omega
theorem carry_any (n : Nat) (s : ByteArray) (w : World) (h : n < 4294967296) (hs : s.size ≤ 1000000) :
  Calls Tryz.prog 121 #[.int .u32 (n : Int), .string s] w fun e w' => e = .returned (.int .u32 (run n s.data.toList : Int)) ∧ w = w' := by
 go_enter Tryz.func121, Tryz.ntmps121
 go_wp2
 go_loop [0, 5] (fun v i => ∃ k : Nat, k ≤ 8 * s.size ∧ i = .int .i64 k ∧ v = .int .u32 (carried n s.data.toList k : Int)) (fun _ i => 8 * s.size - (intOf i).toNat)
 case atStart => exact ⟨0, by omega, rfl, valI (by rw [carried_zero])⟩
 case round =>
  obtain ⟨k, hk, rfl, rfl⟩ := hrel
  have hb := carried_lt h s.data.toList k
  by_cases hlt : k < 8 * s.size
  ·have h8 : k / 8 < s.size := by omega
   go_wp2_with fail
   ·go_round
    case rel => exact ⟨k + 1, by omega, by go_num, valI (carry_yes n s k h hlt h8 (by assumption))⟩
    case measure => simp [intOf]; omega
   ·go_round
    case rel => exact ⟨k + 1, by omega, by go_num, valI (carry_no n s k h hlt h8 (by assumption))⟩
    case measure => simp [intOf]; omega
  ·obtain rfl : k = 8 * s.size := by omega
   go_wp2_with fail
   go_ret
   have e : carried n s.data.toList (8 * s.size) = run n s.data.toList := by
    rw [← carried_end n s.data.toList]; simp
   exact ⟨retI (by rw [e]), rfl⟩
theorem rsum_any (s : ByteArray) (w : World) (hs : s.size ≤ 1000000) :
  Calls Tryz.prog 78 #[.string s] w fun e w' => e = .returned (.int .u32 (more 0 s.data.toList : Int)) ∧ w = w' := by
 go_enter Tryz.func78, Tryz.ntmps78
 go_wp2_with fail
 refine (carry_any 4294967295 s _ (by omega) hs).mono ?_
 rintro e w' ⟨rfl, rfl⟩
 go_wp2_with fail
 go_ret
 exact ⟨retI (not_u32 _ (run_lt (by omega) _)), rfl⟩
theorem sum_any (s : ByteArray) (w : World) (hs : s.size ≤ maxLen) :
  Calls Tryz.prog 85 #[.string s] w fun e w' => e = .returned (.int .u32 (more 0 s.data.toList : Int)) ∧ w = w' := by
 go_enter Tryz.func85, Tryz.ntmps85
 go_wp2_with fail
 refine (more_any 0 s _ (by omega) hs).mono ?_
 rintro e w' ⟨rfl, rfl⟩
 go_wp2_with fail
 go_ret
 exact ⟨rfl, rfl⟩

end Go.Proofs.YtkejlnjnoiidnaaGreatDoor.Crc
end

section
namespace Go.Proofs.YtkejlnjnoiidnaaGreatDoor
open Go.RowKit As
/-- The string of a slice that was built of bytes. -/
theorem string_new {P : Program} (w : World) (src e dst t : TypeId) (vs : Array Value) (l : List UInt8) (n : Nat) (hv : vs = (l.map byteV).toArray) (hn : n = l.length) (hs : P.underlying src = some (.slice e)) (he : P.underlying e = some (.int .u8)) (hd : P.underlying dst = some .string) :
  (convert src dst (.slice (some ⟨w.heap.size, 0, none⟩) n n)).run P (w.alloc (.cells vs t)) = .ok (.string (strOf l)) (w.alloc (.cells vs t)) := by
 subst hv hn
 refine string_of _ src e dst _ _ l hs he hd fun i hi => ⟨?_, ?_⟩
 ·rw [World.cell?_alloc_new]
  simp [List.getElem?_map, List.getElem?_eq_getElem hi]
 ·simp only [World.alloc, World.frozen?, Array.getElem?_push_size]
  simp
set_option maxRecDepth 100000 in
theorem seal_any (s : ByteArray) (w : World) (hs : s.size ≤ 1000000) :
  Calls Tryz.prog 41 #[.string s] w fun e w' => e = .returned (.string (sealOf s)) ∧ Below w.heap.size w w' := by
 obtain ⟨n, hn⟩ : ∃ n, n = crcOf s := ⟨_, rfl⟩
 have hlt := crcOf_lt s
 rw [← hn] at hlt
 have HN := Lib.hid hn
 clear hn
 go_enter Tryz.func41, Tryz.ntmps41
 go_wp2_with fail
 refine (Crc.sum_any s w (by unfold maxLen; omega)).mono ?_
 rintro e w' ⟨rfl, rfl⟩
 rw [show Crc.more 0 s.data.toList = n from HN.out.symm]
 go_wp2_with fail
 rw [string_new w 61 5 9 5 _ (lowB 4 n) 4 (by rw [lowB_four]; simp [byteV]; omega) (lowB_len 4 n).symm Tryz.underlying61 Tryz.underlying5 Tryz.underlying9]
 have h4 : (strOf (lowB 4 n)).size = 4 := four_size n
 generalize hF : strOf (lowB 4 n) = F at *
 have HF := Lib.hid hF
 clear hF
 have hcat : s.size + F.size ≤ 9223372036854775807 := by omega
 go_wp2_with fail
 go_ret
 exact ⟨by unfold sealOf four; rw [← HN.out, HF.out]; rfl, below1 _ _⟩
set_option maxRecDepth 100000 in
theorem rseal_any (s : ByteArray) (w : World) (hs : s.size ≤ 1000000) :
  Calls Tryz.prog 34 #[.string s] w fun e w' => e = .returned (.string (sealOf s)) ∧ Below w.heap.size w w' := by
 obtain ⟨n, hn⟩ : ∃ n, n = crcOf s := ⟨_, rfl⟩
 have hlt := crcOf_lt s
 rw [← hn] at hlt
 have HN := Lib.hid hn
 clear hn
 have h0 := Lib.hid (strOf_nil s)
 go_enter Tryz.func34, Tryz.ntmps34
 go_wp2_with fail
 refine (Crc.rsum_any s w (by omega)).mono ?_
 rintro e w' ⟨rfl, rfl⟩
 rw [show Crc.more 0 s.data.toList = n from HN.out.symm]
 go_wp2
 go_loopw [0, 3, 6] (fun a m i wr => ∃ k : Nat, k ≤ 4 ∧ i = .int .i64 k ∧ m = .int .u32 ((n / 256 ^ k : Nat) : Int) ∧ a = .string (s ++ strOf (lowB k n)) ∧ Below w.heap.size w wr) (fun _ _ i _ => 4 - (intOf i).toNat)
 case atStart => exact ⟨0, by omega, rfl, by simp, by rw [show lowB 0 n = [] from rfl, h0.out], Below.refl _ _⟩
 case round =>
  obtain ⟨k, hk, rfl, rfl, rfl, hbel⟩ := hrel
  have hB := hbel.size
  by_cases hlt : k < 4
  ·have hsn := Lib.hid (lowB_snoc k n)
   have hl := lowB_len k n
   obtain ⟨m, hm⟩ : ∃ m, m = n / 256 ^ k := ⟨_, rfl⟩
   have hmn : m ≤ n := by rw [hm]; exact Nat.div_le_self _ _
   rw [← hm]
   have hnx := Lib.hid (show n / 256 ^ (k + 1) = m / 256 by rw [hm, Nat.div_div_eq_div_mul, Nat.pow_succ])
   have HM := Lib.hid hm
   clear hm
   have hsz : (s ++ strOf (lowB k n)).size = s.size + k := by rw [ByteArray.size_append, strOf_len (lowB k n), hl]
   obtain ⟨T, hT⟩ : ∃ T, T = s ++ strOf (lowB k n) := ⟨_, rfl⟩
   rw [← hT] at hsz ⊢
   have HT := Lib.hid hT
   clear hT
   go_wp2_with fail
   rw [string_new wr 61 5 9 5 _ [UInt8.ofNat (m % 256)] 1 (by simp [byteV]) rfl Tryz.underlying61 Tryz.underlying5 Tryz.underlying9]
   have h1 : (strOf [UInt8.ofNat (m % 256)]).size = 1 := rfl
   generalize hF : strOf [UInt8.ofNat (m % 256)] = F at *
   have HF := Lib.hid hF
   clear hF
   have hcat : T.size + F.size ≤ 9223372036854775807 := by omega
   go_wp2_with fail
   go_roundw
   case rel => exact ⟨k + 1, by omega, by go_num, valI (by rw [hnx.out]; omega), by rw [HT.out, hsn.out, strOf_add, ← str_assoc, ← HF.out, HM.out], hbel.alloc hB _⟩
   case measure => simp [intOf]; omega
  ·obtain rfl : k = 4 := by omega
   go_wp2_with fail
   go_ret
   exact ⟨by unfold sealOf; rw [← HN.out]; rfl, hbel⟩
set_option maxRecDepth 100000 in
theorem open_any (s : ByteArray) (w : World) (hs : s.size ≤ 1000000) :
  Calls Tryz.prog 69 #[.string s] w fun e w' => e = .returned (.tuple #[.string (openOf s).1, errV (openOf s).2]) ∧ Below w.heap.size w w' := by
 by_cases h4 : s.size < 4
 ·have H := Lib.hid (open_short h4)
  have hd : decide (s.size < 4) = true := by simpa using h4
  go_enter Tryz.func69, Tryz.ntmps69
  go_wp2
  go_ret2
  exact ⟨by rw [H.out]; rfl, Below.refl _ _⟩
 ·have hd : decide (s.size < 4) = false := by simpa using h4
  have hsz : (s.extract 0 (s.size - 4)).size = s.size - 4 := by rw [ByteArray.size_extract]; omega
  have he := Lib.hid (show (s.extract 0 (s.size - 4)).size ≤ 1000000 by omega)
  clear hsz
  by_cases hg : sealOf (s.extract 0 (s.size - 4)) = s
  ·have H := Lib.hid (open_good h4 hg)
   have Hg := Lib.hid hg
   clear hg
   go_enter Tryz.func69, Tryz.ntmps69
   go_wp2_with fail
   refine (seal_any _ w he.out).mono ?_
   rintro e w' ⟨rfl, hb⟩
   rw [Hg.out]
   go_wp2
   go_ret2
   exact ⟨by rw [H.out]; rfl, hb⟩
  ·have H := Lib.hid (open_bad h4 hg)
   obtain ⟨Z, hZ⟩ : ∃ Z, Z = sealOf (s.extract 0 (s.size - 4)) := ⟨_, rfl⟩
   rw [← hZ] at hg
   have HZ := Lib.hid hZ
   clear hZ
   have hne := toList_ne hg
   clear hg
   go_enter Tryz.func69, Tryz.ntmps69
   go_wp2_with fail
   refine (seal_any _ w he.out).mono ?_
   rintro e w' ⟨rfl, hb⟩
   rw [← HZ.out]
   go_wp2
   go_ret2
   exact ⟨by rw [H.out]; rfl, hb⟩
set_option maxRecDepth 100000 in
theorem ropen_any (s : ByteArray) (w : World) (hs : s.size ≤ 1000000) :
  Calls Tryz.prog 48 #[.string s] w fun e w' => e = .returned (.tuple #[.string (openOf s).1, .int .i64 (openOf s).2]) ∧ Below w.heap.size w w' := by
 by_cases h4 : s.size < 4
 ·have H := Lib.hid (open_short h4)
  have hd : decide (s.size < 4) = true := by simpa using h4
  go_enter Tryz.func48, Tryz.ntmps48
  go_wp2
  go_ret2
  exact ⟨by rw [H.out]; rfl, Below.refl _ _⟩
 ·have hd : decide (s.size < 4) = false := by simpa using h4
  have hsz : (s.extract 0 (s.size - 4)).size = s.size - 4 := by rw [ByteArray.size_extract]; omega
  have he := Lib.hid (show (s.extract 0 (s.size - 4)).size ≤ 1000000 by omega)
  clear hsz
  by_cases hg : sealOf (s.extract 0 (s.size - 4)) = s
  ·have H := Lib.hid (open_good h4 hg)
   have Hg := Lib.hid hg
   clear hg
   go_enter Tryz.func48, Tryz.ntmps48
   go_wp2_with fail
   refine (rseal_any _ w he.out).mono ?_
   rintro e w' ⟨rfl, hb⟩
   rw [Hg.out]
   go_wp2
   go_ret2
   exact ⟨by rw [H.out]; rfl, hb⟩
  ·have H := Lib.hid (open_bad h4 hg)
   obtain ⟨Z, hZ⟩ : ∃ Z, Z = sealOf (s.extract 0 (s.size - 4)) := ⟨_, rfl⟩
   rw [← hZ] at hg
   have HZ := Lib.hid hZ
   clear hZ
   have hne := toList_ne hg
   clear hg
   go_enter Tryz.func48, Tryz.ntmps48
   go_wp2_with fail
   refine (rseal_any _ w he.out).mono ?_
   rintro e w' ⟨rfl, hb⟩
   rw [← HZ.out]
   go_wp2
   go_ret2
   exact ⟨by rw [H.out]; rfl, hb⟩
end Go.Proofs.YtkejlnjnoiidnaaGreatDoor
end
