/- The batch that bytes are, in plain Lean. No program in sight. -/
import Derived.Test.YtkejlnjnoiidnaaGreatDoorZ10
import Derived.Test.YtkejlnjnoiidnaaGreatDoorZ5
import Derived.Test.YtkejlnjnoiidnaaGreatDoorZ1
import Derived.Test.YtkejlnjnoiidnaaGreatDoorProg
import Derived.Test.YtkejlnjnoiidnaaGreatDoorZ3
import Derived.WalkKit
import Derived.WalkLawsBesides
import Derived.WalkSpells
import Derived.Outline
import Derived.Lib.Hide
import Derived.Laws.BitsAllLaws
import Derived.Test.YtkejlnjnoiidnaaGreatDoorZ2
import Derived.Test.YtkejlnjnoiidnaaGreatDoorZ4
set_option linter.unusedSimpArgs false
set_option linter.unusedVariables false
section
namespace Go.Proofs.YtkejlnjnoiidnaaGreatDoor
def byteOf (t : ByteArray) (k : Nat) : Nat := (t.data.toList.getD k 0).toNat
theorem zdv (t : ByteArray) (k : Nat) (h : k < t.size) : byteOf t k = (t[k]).toNat := by
 unfold byteOf;have hl : k < t.data.toList.length := by simpa using h
 simp [List.getD, List.getElem?_eq_getElem hl];rfl
theorem zhn (t : ByteArray) (k : Nat) : byteOf t k < 256 := UInt8.toNat_lt _
abbrev BR := (List Ent × List Ent × List Wr) × Int × Int
abbrev noB : List Ent × List Ent × List Wr := ([], [], [])
def bend (s : ByteArray) (f h : List Ent) (T : List ByteArray) (at_ : List Int) (ws : List Wr) (p : Nat) : BR :=
 if p < s.size then (noB, 3, (p : Int))
 else if (zgn T at_).2.1 ≠ 0 then (noB, (zgn T at_).2.1, (s.size : Int))
 else if (zbd f h ws).1 ≠ 0 then (noB, (zbd f h ws).1, (s.size : Int))
 else ((f, h, ws), 0, -1)
abbrev WO := Int × Nat × Wr × Nat × Nat
def bad1 (e : Int) (p : Nat) : WO := (e, p, noWr, 0, 0)
abbrev raw (h : List Ent) (T : List ByteArray) (tm i x kd : Nat) : Wr := ((tm : Int), (h.getD i (0, 0)).1, (kd : Int), T.getD x (strOf []), strOf [], 0)
def wfin (s : ByteArray) (h : List Ent) (T : List ByteArray) (p tm i x kd : Nat) : WO :=
 if (zcy (raw h T tm i x kd) (s.extract p s.size)).2.2 ≠ 0 then bad1 (zcy (raw h T tm i x kd) (s.extract p s.size)).2.2 p
 else (0, p + (zcy (raw h T tm i x kd) (s.extract p s.size)).2.1, (zcy (raw h T tm i x kd) (s.extract p s.size)).1, x, tm)
def wkey (s : ByteArray) (h : List Ent) (T : List ByteArray) (p tm i kd : Nat) : WO :=
 if (vat s p ((T.length : Int) - 1)).2.2 ≠ 0 then bad1 (vat s p ((T.length : Int) - 1)).2.2 p
 else wfin s h T (p + (vat s p ((T.length : Int) - 1)).2.1) tm i (vat s p ((T.length : Int) - 1)).1 kd
def wrep (s : ByteArray) (h : List Ent) (T : List ByteArray) (p tm kd : Nat) : WO :=
 if (vat s p ((h.length : Int) - 1)).2.2 ≠ 0 then bad1 (vat s p ((h.length : Int) - 1)).2.2 p
 else wkey s h T (p + (vat s p ((h.length : Int) - 1)).2.1) tm (vat s p ((h.length : Int) - 1)).1 kd
def zrz (s : ByteArray) (h : List Ent) (T : List ByteArray) (p tm kd : Nat) : WO :=
 if (vat s p 1099511627776).2.2 ≠ 0 then bad1 (vat s p 1099511627776).2.2 p
 else if 1099511627776 < tm + (vat s p 1099511627776).1 then bad1 2 p
 else wrep s h T (p + (vat s p 1099511627776).2.1) (tm + (vat s p 1099511627776).1) kd
def wone (s : ByteArray) (h : List Ent) (T : List ByteArray) (p tm : Nat) : WO :=
 if s.size ≤ p then bad1 7 p
 else if byteOf s p < 1 ∨ 4 < byteOf s p then bad1 1 p
 else zrz s h T (p + 1) tm (byteOf s p)
def bws (s : ByteArray) (f h : List Ent) (T : List ByteArray) : Nat → Nat → Nat → List Int → List Wr → BR
 | 0, p, _, at_, ws => bend s f h T at_ ws p
 | c + 1, p, tm, at_, ws =>
  if (wone s h T p tm).1 ≠ 0 then (noB, (wone s h T p tm).1, ((wone s h T p tm).2.1 : Int))
  else bws s f h T c (wone s h T p tm).2.1 (wone s h T p tm).2.2.2.2 (at_ ++ [((wone s h T p tm).2.2.2.1 : Int)]) (ws ++ [(wone s h T p tm).2.2.1])
def zgq (s : ByteArray) (f h : List Ent) : Nat → Nat → List ByteArray → BR
 | 0, p, T => if (vat s p 60).2.2 ≠ 0 then (noB, (vat s p 60).2.2, (p : Int)) else bws s f h T (vat s p 60).1 (p + (vat s p 60).2.1) 0 [] []
 | c + 1, p, T => if (zaq (s.extract p s.size)).2.2 ≠ 0 then (noB, (zaq (s.extract p s.size)).2.2, (p : Int)) else zgq s f h c (p + (zaq (s.extract p s.size)).2.1) (T ++ [(zaq (s.extract p s.size)).1])
def btab (s : ByteArray) (f h : List Ent) (p : Nat) : BR := if (vat s p 60).2.2 ≠ 0 then (noB, (vat s p 60).2.2, (p : Int)) else zgq s f h (vat s p 60).1 (p + (vat s p 60).2.1) []
def zvk (s : ByteArray) (f : List Ent) (p : Nat) : BR := if (zbj (s.extract p s.size)).2.2 ≠ 0 then (noB, (zbj (s.extract p s.size)).2.2, (p : Int)) else btab s f (zbj (s.extract p s.size)).1 (p + (zbj (s.extract p s.size)).2.1)
def zcj (s : ByteArray) : BR :=
 if 20000 < s.size then (noB, 4, -1)
 else if (zbj s).2.2 ≠ 0 then (noB, (zbj s).2.2, 0)
 else zvk s (zbj s).1 (zbj s).2.1
section
variable {s : ByteArray} {f h : List Ent} {T : List ByteArray} {at_ : List Int} {ws : List Wr} {X : BR} {p tm n k i j x m kd c : Nat} {e : Int} {l : List Ent} {w : Wr} {b : ByteArray}
theorem ztp (a : 20000 < s.size) : zcj s = (noB, 4, -1) := by unfold zcj; rw [if_pos a]
theorem zot (a : ¬ 20000 < s.size) (hv : zbj s = (l, n, e)) (he : e ≠ 0) : zcj s = (noB, e, 0) := by unfold zcj; rw [if_neg a, hv, if_pos he]
theorem zqf (a : ¬ 20000 < s.size) (hv : zbj s = (l, n, 0)) : zcj s = zvk s l n := by unfold zcj; rw [if_neg a, hv, if_neg (by simp)]
theorem zuf (hX : X = zvk s f p) (hv : zbj (s.extract p s.size) = (l, n, e)) (he : e ≠ 0) : X = (noB, e, (p : Int)) := by rw [hX]; unfold zvk; rw [hv, if_pos he]
theorem zxw (hX : X = zvk s f p) (hv : zbj (s.extract p s.size) = (l, n, 0)) : X = btab s f l (p + n) := by rw [hX]; unfold zvk; rw [hv, if_neg (by simp)]
theorem zwq (hX : X = btab s f h p) (hv : vat s p 60 = (n, k, e)) (he : e ≠ 0) : X = (noB, e, (p : Int)) := by rw [hX]; unfold btab; rw [hv, if_pos he]
theorem ydz (hX : X = btab s f h p) (hv : vat s p 60 = (n, k, 0)) : X = zgq s f h n (p + k) [] := by rw [hX]; unfold btab; rw [hv, if_neg (by simp)]
theorem zsd (hX : X = zgq s f h (c + 1) p T) (hv : zaq (s.extract p s.size) = (b, n, e)) (he : e ≠ 0) : X = (noB, e, (p : Int)) := by rw [hX]; unfold zgq; rw [hv, if_pos he]
theorem zxv (hX : X = zgq s f h (c + 1) p T) (hv : zaq (s.extract p s.size) = (b, n, 0)) : X = zgq s f h c (p + n) (T ++ [b]) := by rw [hX]; rw [zgq, hv, if_neg (by simp)]
theorem zsw (hX : X = zgq s f h 0 p T) (hv : vat s p 60 = (n, k, e)) (he : e ≠ 0) : X = (noB, e, (p : Int)) := by rw [hX]; unfold zgq; rw [hv, if_pos he]
theorem zsr (hX : X = zgq s f h 0 p T) (hv : vat s p 60 = (n, k, 0)) : X = bws s f h T n (p + k) 0 [] [] := by rw [hX]; unfold zgq; rw [hv, if_neg (by simp)]
theorem zej (hX : X = bws s f h T (c + 1) p tm at_ ws) (ho : wone s h T p tm = bad1 e j) (he : e ≠ 0) : X = (noB, e, (j : Int)) := by rw [hX, bws, ho, if_pos (by exact he)]; rfl
theorem yin (hX : X = bws s f h T (c + 1) p tm at_ ws) (ho : wone s h T p tm = (0, n, w, x, m)) : X = bws s f h T c n m (at_ ++ [(x : Int)]) (ws ++ [w]) := by rw [hX, bws, ho, if_neg (by simp)]
theorem yfh (hX : X = bws s f h T 0 p tm at_ ws) : X = bend s f h T at_ ws p := hX
theorem zrp (hX : X = bend s f h T at_ ws p) (a : p < s.size) : X = (noB, 3, (p : Int)) := by rw [hX]; unfold bend; rw [if_pos a]
theorem zsa (hX : X = bend s f h T at_ ws p) (a : ¬ p < s.size) (he : (zgn T at_).2.1 ≠ 0) : X = (noB, (zgn T at_).2.1, (s.size : Int)) := by rw [hX]; unfold bend; rw [if_neg a, if_pos he]
theorem zwi (hX : X = bend s f h T at_ ws p) (a : ¬ p < s.size) (he : (zgn T at_).2.1 = 0) (h2 : (zbd f h ws).1 ≠ 0) : X = (noB, (zbd f h ws).1, (s.size : Int)) := by rw [hX]; unfold bend; rw [if_neg a, if_neg (by simp [he]), if_pos h2]
theorem ybg (hX : X = bend s f h T at_ ws p) (a : ¬ p < s.size) (he : (zgn T at_).2.1 = 0) (h2 : (zbd f h ws).1 = 0) : X = ((f, h, ws), 0, -1) := by rw [hX]; unfold bend; rw [if_neg a, if_neg (by simp [he]), if_neg (by simp [h2])]
theorem zyq (a : s.size ≤ p) : wone s h T p tm = bad1 7 p := by unfold wone; rw [if_pos a]
theorem zsk (a : ¬ s.size ≤ p) (b : byteOf s p < 1 ∨ 4 < byteOf s p) : wone s h T p tm = bad1 1 p := by unfold wone; rw [if_neg a, if_pos b]
theorem yat (a : ¬ s.size ≤ p) (b : ¬ (byteOf s p < 1 ∨ 4 < byteOf s p)) : wone s h T p tm = zrz s h T (p + 1) tm (byteOf s p) := by unfold wone; rw [if_neg a, if_neg b]
theorem zsz (hv : vat s p 1099511627776 = (n, k, e)) (he : e ≠ 0) : zrz s h T p tm kd = bad1 e p := by unfold zrz; rw [hv, if_pos he]
theorem zox (hv : vat s p 1099511627776 = (n, k, 0)) (a : 1099511627776 < tm + n) : zrz s h T p tm kd = bad1 2 p := by unfold zrz; rw [hv, if_neg (by simp), if_pos a]
theorem zxb (hv : vat s p 1099511627776 = (n, k, 0)) (a : ¬ 1099511627776 < tm + n) : zrz s h T p tm kd = wrep s h T (p + k) (tm + n) kd := by unfold zrz; rw [hv, if_neg (by simp), if_neg a]
theorem zya (hv : vat s p ((h.length : Int) - 1) = (n, k, e)) (he : e ≠ 0) : wrep s h T p tm kd = bad1 e p := by unfold wrep; rw [hv, if_pos he]
theorem yav (hv : vat s p ((h.length : Int) - 1) = (n, k, 0)) : wrep s h T p tm kd = wkey s h T (p + k) tm n kd := by unfold wrep; rw [hv, if_neg (by simp)]
theorem zwn (hv : vat s p ((T.length : Int) - 1) = (n, k, e)) (he : e ≠ 0) : wkey s h T p tm i kd = bad1 e p := by unfold wkey; rw [hv, if_pos he]
theorem yef (hv : vat s p ((T.length : Int) - 1) = (n, k, 0)) : wkey s h T p tm i kd = wfin s h T (p + k) tm i n kd := by unfold wkey; rw [hv, if_neg (by simp)]
theorem zwp (hv : zcy (raw h T tm i x kd) (s.extract p s.size) = (w, n, e)) (he : e ≠ 0) : wfin s h T p tm i x kd = bad1 e p := by unfold wfin; rw [hv, if_pos he]
theorem yek (hv : zcy (raw h T tm i x kd) (s.extract p s.size) = (w, n, 0)) : wfin s h T p tm i x kd = (0, p + n, w, x, tm) := by unfold wfin; rw [hv, if_neg (by simp)]
end
theorem zzw {s : ByteArray} : ∀ (c : Nat) (r : Int) (p : Nat) (acc : List Ent), p ≤ s.size → (zdu s c r p acc).2.1 ≤ s.size := by
 intro c;induction c with
 | zero => intro r p acc h; exact h
 | succ c ih =>
  intro r p acc h;simp only [zdu];obtain ⟨n, k, e, ha, hx⟩ := zdz s p 1099511627776;rw [ha];split
  ·exact Nat.zero_le _
  ·rename_i he;rcases hx with ⟨_, _, _, _, h4⟩ | ⟨h1, _⟩
   ·exact ih _ _ _ h4
   ·exact absurd h1 he
theorem ybd {s : ByteArray} : ∀ (c : Nat) (b : Bool) (r : Int) (p : Nat) (acc : List Ent), p ≤ s.size → (zfc s c b r p acc).2.1 ≤ s.size := by
 intro c;induction c with
 | zero => intro b r p acc h; exact h
 | succ c ih =>
  intro b r p acc h;simp only [zfc];obtain ⟨n, k, e, ha, hx⟩ := zdz s p 200;rw [ha];split
  ·exact Nat.zero_le _
  ·rename_i he;rcases hx with ⟨_, _, _, _, h4⟩ | ⟨h1, _⟩
   ·simp only;obtain ⟨n', k', e', ha', hx'⟩ := zdz s (p + k) 16;rw [ha'];split
    ·exact Nat.zero_le _
    ·rename_i he';rcases hx' with ⟨_, _, _, _, h4'⟩ | ⟨h1, _⟩
     ·generalize (r + (n : Int) + (if b = true then (0 : Int) else 1)) = Z;split
      ·exact Nat.zero_le _
      ·exact ih _ _ _ _ (zzw _ _ _ _ h4')
     ·exact absurd h1 he'
   ·exact absurd h1 he
theorem zmb (s : ByteArray) : (zbj s).2.1 ≤ s.size := by
 unfold zbj;split
 ·exact Nat.zero_le _
 ·split
  ·exact Nat.zero_le _
  ·unfold zir;obtain ⟨n, k, e, ha, hx⟩ := zdz s 0 16;rw [ha];split
   ·exact Nat.zero_le _
   ·rename_i he;rcases hx with ⟨_, _, _, _, h4⟩ | ⟨h1, _⟩
    ·exact ybd _ _ _ _ _ (by simpa using h4)
    ·exact absurd h1 he
theorem zvw {s : ByteArray} : (zaf (zbj s).1).1 = 0 := by
 unfold zbj;split
 ·rfl
 ·split
  ·rfl
  ·rename_i h; simpa using h
theorem zlq {w : Wr} {k m : Nat} (h : k ≤ m) : (wend w k).2.1 ≤ m := by
 unfold wend;split
 ·exact Nat.zero_le _
 ·exact h
theorem zkj (x : Wr) (s : ByteArray) : (zcy x s).2.1 ≤ s.size := by
 have hu : ∀ t : ByteArray, (zaq t).2.1 ≤ t.size := fun t => by
  rcases zci t with h | ⟨e, h, _⟩
  ·exact h.2.2.1
  ·rw [h]; exact Nat.zero_le _
 have hv : (vget s.data.toList).2.1 ≤ s.size := by
  have hl : s.data.toList.length = s.size := by simp
  rcases zdw s.data.toList with h | h | h | h
  ·omega
  all_goals rw [h]; exact Nat.zero_le _
 have hi : (vint s.data.toList 1000).2.1 ≤ s.size := by
  have ha : vat s 0 1000 = vint s.data.toList 1000 := by unfold vat; rw [show s.extract 0 s.size = s from ByteArray.extract_zero_size]
  obtain ⟨n, k, e, h, hx⟩ := zdz s 0 1000;rw [← ha, h];rcases hx with ⟨_, _, _, _, h4⟩ | ⟨_, _, h4⟩
  ·simpa using h4
  ·rw [h4]; exact Nat.zero_le _
 unfold zcy;split
 ·split
  ·exact Nat.zero_le _
  ·exact zlq (hu s)
 ·split
  ·split
   ·exact Nat.zero_le _
   ·exact zlq hv
  ·split
   ·split
    ·exact Nat.zero_le _
    ·split
     ·exact Nat.zero_le _
     ·refine zlq ?_;have := hu (s.extract (vint s.data.toList 1000).2.1 s.size);rw [ByteArray.size_extract] at this;omega
   ·exact zlq (Nat.zero_le _)
end Go.Proofs.YtkejlnjnoiidnaaGreatDoor
end

section
namespace Go.Proofs.YtkejlnjnoiidnaaGreatDoor
def uat (s : ByteArray) (p : Nat) : Nat × Nat × Int := vget (s.extract p s.size).data.toList
theorem yit (s : ByteArray) (p : Nat) : ∃ (n k : Nat) (e : Int), uat s p = (n, k, e) ∧ (e = 0 ∧ n < 18446744073709551616 ∧ 0 < k ∧ k ≤ 10 ∧ p + k ≤ s.size ∨ e ≠ 0 ∧ n = 0 ∧ k = 0) := by
 have el : (s.extract p s.size).data.toList.length = s.size - p := by simp
 rcases zdw (s.extract p s.size).data.toList with ⟨h0, h1, h2, h3, h4⟩ | h | h | h
 ·refine ⟨(uat s p).1, (uat s p).2.1, (uat s p).2.2, rfl, .inl ⟨h0, h1, h2, h3, ?_⟩⟩;unfold uat;omega
 ·exact ⟨0, 0, 3, h, .inr ⟨by omega, rfl, rfl⟩⟩
 ·exact ⟨0, 0, 4, h, .inr ⟨by omega, rfl, rfl⟩⟩
 ·exact ⟨0, 0, 7, h, .inr ⟨by omega, rfl, rfl⟩⟩
abbrev LR := List Tok × List Int × Int × Int
def lgo (s : ByteArray) : Nat → Nat → List Tok → List Int → LR
 | 0, _, acc, st => (acc, st, 0, -1)
 | f + 1, p, acc, st =>
  if s.size ≤ p then (acc, st, 0, -1)
  else if (uat s p).2.2 ≠ 0 then ([], [], (uat s p).2.2, (p : Int))
  else if (uat s p).1 % 2 = 0 then
   if (uat s p).1 / 2 = 0 then ([], [], 3, (p : Int))
   else if s.size < p + (uat s p).2.1 + (uat s p).1 / 2 then ([], [], 7, (s.size : Int))
   else lgo s f (p + (uat s p).2.1 + (uat s p).1 / 2) (acc ++ [(s.extract (p + (uat s p).2.1) (p + (uat s p).2.1 + (uat s p).1 / 2), 0, 0)]) (st ++ [(p : Int)])
  else if 63 < (uat s p).1 / 2 then ([], [], 2, (p : Int))
  else if (vat s (p + (uat s p).2.1) 1023).2.2 ≠ 0 then ([], [], (vat s (p + (uat s p).2.1) 1023).2.2, ((p + (uat s p).2.1 : Nat) : Int))
  else lgo s f (p + (uat s p).2.1 + (vat s (p + (uat s p).2.1) 1023).2.1) (acc ++ [(⟨#[]⟩, ((vat s (p + (uat s p).2.1) 1023).1 : Int) + 1, (((uat s p).1 / 2 : Nat) : Int) + 4)]) (st ++ [(p : Int)])
def LAt (s : ByteArray) (X : LR) (p : Nat) (acc : List Tok) (st : List Int) : Prop := ∃ f, s.size < p + f ∧ X = lgo s f p acc st
def zkb (s : ByteArray) : LR := lgo s (s.size + 1) 0 [] []
section
variable {s : ByteArray} {X : LR} {p n k m j : Nat} {e : Int} {acc : List Tok} {st : List Int}
theorem LAt.start (s : ByteArray) : LAt s (zkb s) 0 [] [] := ⟨s.size + 1, by omega, rfl⟩
theorem LAt.fuel (h : LAt s X p acc st) (hp : p < s.size) : ∃ f, s.size < p + (f + 1) ∧ X = lgo s (f + 1) p acc st := by
 obtain ⟨f, h1, h2⟩ := h;cases f with
 | zero => omega
 | succ f => exact ⟨f, h1, h2⟩
theorem LAt.done (h : LAt s X p acc st) (hp : s.size ≤ p) : X = (acc, st, 0, -1) := by
 obtain ⟨f, h1, rfl⟩ := h;cases f with
 | zero => rfl
 | succ f => simp only [lgo]; rw [if_pos hp]
theorem LAt.num (h : LAt s X p acc st) (hp : p < s.size) (ha : uat s p = (n, k, e)) (he : e ≠ 0) : X = ([], [], e, (p : Int)) := by
 obtain ⟨f, h1, rfl⟩ := h.fuel hp;simp only [lgo]; rw [if_neg (by omega), ha, if_pos he]
theorem LAt.form (h : LAt s X p acc st) (hp : p < s.size) (ha : uat s p = (n, k, 0)) (h2 : n % 2 = 0) (h0 : n / 2 = 0) : X = ([], [], 3, (p : Int)) := by
 obtain ⟨f, h1, rfl⟩ := h.fuel hp;simp only [lgo]; rw [if_neg (by omega), ha, if_neg (by simp), if_pos h2, if_pos h0]
theorem LAt.miss (h : LAt s X p acc st) (hp : p < s.size) (ha : uat s p = (n, k, 0)) (h2 : n % 2 = 0) (h0 : n / 2 ≠ 0) (h3 : s.size < p + k + n / 2) : X = ([], [], 7, (s.size : Int)) := by
 obtain ⟨f, h1, rfl⟩ := h.fuel hp;simp only [lgo]; rw [if_neg (by omega), ha, if_neg (by simp), if_pos h2, if_neg h0, if_pos h3]
theorem LAt.own (h : LAt s X p acc st) (hp : p < s.size) (ha : uat s p = (n, k, 0)) (h2 : n % 2 = 0) (h0 : n / 2 ≠ 0) (h3 : ¬ s.size < p + k + n / 2) :
  LAt s X (p + k + n / 2) (acc ++ [(s.extract (p + k) (p + k + n / 2), 0, 0)]) (st ++ [(p : Int)]) := by
 obtain ⟨f, h1, rfl⟩ := h.fuel hp;refine ⟨f, by omega, ?_⟩;simp only [lgo]; rw [if_neg (by omega), ha, if_neg (by simp), if_pos h2, if_neg h0, if_neg h3]
theorem LAt.range (h : LAt s X p acc st) (hp : p < s.size) (ha : uat s p = (n, k, 0)) (h2 : ¬ n % 2 = 0) (h3 : 63 < n / 2) : X = ([], [], 2, (p : Int)) := by
 obtain ⟨f, h1, rfl⟩ := h.fuel hp;simp only [lgo]; rw [if_neg (by omega), ha, if_neg (by simp), if_neg h2, if_pos h3]
theorem LAt.back (h : LAt s X p acc st) (hp : p < s.size) (ha : uat s p = (n, k, 0)) (h2 : ¬ n % 2 = 0) (h3 : ¬ 63 < n / 2) (hb : vat s (p + k) 1023 = (m, j, e)) (he : e ≠ 0) : X = ([], [], e, ((p + k : Nat) : Int)) := by
 obtain ⟨f, h1, rfl⟩ := h.fuel hp;simp only [lgo]; rw [if_neg (by omega), ha, if_neg (by simp), if_neg h2, if_neg h3];simp only;rw [hb, if_pos he]
theorem LAt.rep (h : LAt s X p acc st) (hp : p < s.size) (ha : uat s p = (n, k, 0)) (hk : 0 < k) (h2 : ¬ n % 2 = 0) (h3 : ¬ 63 < n / 2) (hb : vat s (p + k) 1023 = (m, j, 0)) :
  LAt s X (p + k + j) (acc ++ [(⟨#[]⟩, (m : Int) + 1, ((n / 2 : Nat) : Int) + 4)]) (st ++ [(p : Int)]) := by
 obtain ⟨f, h1, rfl⟩ := h.fuel hp;refine ⟨f, by omega, ?_⟩;simp only [lgo]; rw [if_neg (by omega), ha, if_neg (by simp), if_neg h2, if_neg h3];simp only;rw [hb, if_neg (by simp)]
end
theorem ygy (l : List Tok) : ∀ (n i : Nat), (trgo l n i).1 ≠ 0 → ∃ k : Nat, (trgo l n i).2 = ((i + k : Nat) : Int) ∧ k < l.length := by
 induction l with
 | nil => intro n i h; exact absurd rfl h
 | cons t l ih =>
  intro n i h;have step : ∀ n', (trgo l n' (i + 1)).1 ≠ 0 → ∃ k : Nat, (trgo l n' (i + 1)).2 = ((i + k : Nat) : Int) ∧ k < (t :: l).length := fun n' h' => by
   obtain ⟨k, h1, h2⟩ := ih n' (i + 1) h';exact ⟨k + 1, by rw [h1]; congr 1; omega, by simp; omega⟩
  have z : ∀ e : Int, ∃ k : Nat, ((e, (i : Int)) : Int × Int).2 = ((i + k : Nat) : Int) ∧ k < (t :: l).length := fun e => ⟨0, rfl, by simp⟩
  unfold trgo at h ⊢;split
  ·exact z _
  ·rename_i h1;rw [if_neg h1] at h;split
   ·rename_i h2;rw [if_pos h2] at h;split
    ·exact z _
    ·rename_i h3;rw [if_neg h3] at h;exact step _ h
   ·rename_i h2;rw [if_neg h2] at h;split
    ·exact z _
    ·rename_i h3;rw [if_neg h3] at h;split
     ·exact z _
     ·rename_i h4;rw [if_neg h4] at h;split
      ·exact z _
      ·rename_i h5;rw [if_neg h5] at h;exact step _ h
theorem zof {l : List Tok} (h : (zaz l).1 ≠ 0) : ∃ k : Nat, (zaz l).2 = (k : Int) ∧ k < l.length := by
 obtain ⟨k, h1, h2⟩ := ygy l 0 0 h;exact ⟨k, by rw [zaz, h1]; congr 1; omega, h2⟩
def zcu (s : ByteArray) : List Tok × Int × Int :=
 if (zkb s).2.2.1 ≠ 0 then ([], (zkb s).2.2.1, (zkb s).2.2.2)
 else if (zaz (zkb s).1).1 ≠ 0 then ([], (zaz (zkb s).1).1, (zkb s).2.1.getD (zaz (zkb s).1).2.toNat 0)
 else ((zkb s).1, 0, -1)
theorem zds {s : ByteArray} {X : LR} {e p : Int} (hX : zkb s = X) (h : X = ([], [], e, p)) (he : e ≠ 0) : zcu s = ([], e, p) := by
 unfold zcu; rw [hX, h, if_pos he]
theorem zmh {s : ByteArray} {X : LR} {l : List Tok} {st : List Int} (hX : zkb s = X) (h : X = (l, st, 0, -1)) (he : (zaz l).1 ≠ 0) : zcu s = ([], (zaz l).1, st.getD (zaz l).2.toNat 0) := by
 unfold zcu; rw [hX, h, if_neg (by simp), if_pos he]
theorem zpq {s : ByteArray} {X : LR} {l : List Tok} {st : List Int} (hX : zkb s = X) (h : X = (l, st, 0, -1)) (he : (zaz l).1 = 0) : zcu s = (l, 0, -1) := by
 unfold zcu; rw [hX, h, if_neg (by simp), if_neg (by simpa using he)]
def zex (s : ByteArray) : ByteArray × Int × Int := if (zcu s).2.1 ≠ 0 then (⟨#[]⟩, (zcu s).2) else textOf (zcu s).1
end Go.Proofs.YtkejlnjnoiidnaaGreatDoor
end

section
namespace Go.Proofs.YtkejlnjnoiidnaaGreatDoor
def fver (s : ByteArray) : Int × Int :=
 if s.size < 8 then (0, 7)
 else if s.extract 0 2 ≠ ⟨#[80, 84]⟩ then (0, 5)
 else if byteOf s 2 < 1 ∨ 3 < byteOf s 2 then (0, 8)
 else if (zet s).2 ≠ 0 then (0, (zet s).2) else ((byteOf s 2 : Int), 0)
section
variable {s : ByteArray}
theorem zpf (h : s.size < 8) : fver s = (0, 7) := by unfold fver; rw [if_pos h]
theorem zsc (h : ¬ s.size < 8) (h2 : s.extract 0 2 ≠ ⟨#[80, 84]⟩) : fver s = (0, 5) := by unfold fver; rw [if_neg h, if_pos h2]
theorem zsq (h : ¬ s.size < 8) (h2 : s.extract 0 2 = ⟨#[80, 84]⟩) (h3 : byteOf s 2 < 1 ∨ 3 < byteOf s 2) : fver s = (0, 8) := by unfold fver; rw [if_neg h, if_neg (by simp [h2]), if_pos h3]
theorem zsg (h : ¬ s.size < 8) (h2 : s.extract 0 2 = ⟨#[80, 84]⟩) (h3 : ¬ (byteOf s 2 < 1 ∨ 3 < byteOf s 2)) {e : Int} {t : ByteArray} (ho : zet s = (t, e)) (he : e ≠ 0) : fver s = (0, e) := by unfold fver; rw [if_neg h, if_neg (by simp [h2]), if_neg h3, ho, if_pos he]
theorem ybj (h : ¬ s.size < 8) (h2 : s.extract 0 2 = ⟨#[80, 84]⟩) (h3 : ¬ (byteOf s 2 < 1 ∨ 3 < byteOf s 2)) {t : ByteArray} (ho : zet s = (t, 0)) : fver s = ((byteOf s 2 : Int), 0) := by unfold fver; rw [if_neg h, if_neg (by simp [h2]), if_neg h3, ho, if_neg (by simp)]
abbrev zjg (s : ByteArray) : ByteArray := s.extract 0 (s.size - 4)
theorem zgd {v : Int} (h : fver s = (v, 0)) : 8 ≤ s.size ∧ zet s = (zjg s, 0) ∧ (v = 1 ∨ v = 2 ∨ v = 3) ∧ v = (byteOf s 2 : Int) := by
 unfold fver at h;split at h
 ·injection h with _ h; omega
 ·split at h
  ·injection h with _ h; omega
  ·split at h
   ·injection h with _ h; omega
   ·split at h
    ·rename_i h9; injection h with _ h; omega
    ·rename_i h1 h2 h3 h4;injection h with h5 _
     refine ⟨by omega, ?_, by omega, h5.symm⟩;by_cases hs : zed (s.extract 0 (s.size - 4)) = s
     ·exact zmq (by omega) hs
     ·rw [zrg (by omega) hs] at h4; simp at h4
theorem zim (h : 8 ≤ s.size) : (zjg s).size = s.size - 4 := by rw [ByteArray.size_extract]; omega
theorem znm (h : 8 ≤ s.size) : (zjg s).extract 3 (zjg s).size = s.extract 3 (s.size - 4) := by
 rw [zim h, ByteArray.extract_extract]; congr 1 <;> omega
theorem ybq {t : ByteArray} (a k : Nat) : (t.extract 3 t.size).extract (1 + k) (t.extract 3 t.size).size = t.extract (4 + k) t.size := by
 rw [ByteArray.extract_extract, ByteArray.size_extract]; congr 1 <;> omega
theorem zkt {a b i : Nat} (hb : b ≤ s.size) (hi : a + i < b) : byteOf (s.extract a b) i = byteOf s (a + i) := by
 rw [zdv _ _ (by rw [ByteArray.size_extract]; omega), zdv _ _ (by omega)];simp [ByteArray.getElem_extract]
def zix (s : ByteArray) (b : BR) : BR := if b.2.1 ≠ 0 then (noB, b.2) else if (zcl (zcb b.1.1 b.1.2.1 b.1.2.2)).1 ≠ s then (noB, 13, -1) else b
def znz (s : ByteArray) (n : Nat) (t : ByteArray) : BR := if t.size ≠ n then (noB, 2, -1) else zix s (zcj t)
def zhr (s : ByteArray) (n : Nat) (t : ByteArray) : BR := if byteOf s 3 = 1 then (if (zex t).2.1 ≠ 0 then (noB, (zex t).2.1, -1) else znz s n (zex t).1) else znz s n t
def yhf (s : ByteArray) (x : Nat × Nat × Int) : BR := if x.2.2 ≠ 0 then (noB, x.2.2, -1) else zhr s x.1 ((zjg s).extract (4 + x.2.1) (zjg s).size)
def zdc (s : ByteArray) : BR :=
 if (fver s).2 ≠ 0 then (noB, (fver s).2, -1)
 else if (fver s).1 ≠ 3 then (noB, 6, -1)
 else if 1 < byteOf s 3 then (noB, 3, -1) else yhf s (vat (zjg s) 4 20000)
variable {X : BR} {n k : Nat} {v e p : Int} {t u : ByteArray}
theorem yjd (hv : fver s = (v, e)) (he : e ≠ 0) : zdc s = (noB, e, -1) := by unfold zdc; rw [hv, if_pos he]
theorem zxx (hv : fver s = (v, 0)) (h3 : v ≠ 3) : zdc s = (noB, 6, -1) := by unfold zdc; rw [hv, if_neg (by simp), if_pos h3]
theorem ycb (hv : fver s = (3, 0)) (h : 1 < byteOf s 3) : zdc s = (noB, 3, -1) := by unfold zdc; rw [hv, if_neg (by simp), if_neg (by simp), if_pos h]
theorem yip (hv : fver s = (3, 0)) (h : ¬ 1 < byteOf s 3) (ha : vat (zjg s) 4 20000 = (n, k, e)) (he : e ≠ 0) : zdc s = (noB, e, -1) := by unfold zdc; rw [hv, if_neg (by simp), if_neg (by simp), if_neg h, ha]; unfold yhf; rw [if_pos he]
theorem ybh (hv : fver s = (3, 0)) (h : ¬ 1 < byteOf s 3) (ha : vat (zjg s) 4 20000 = (n, k, 0)) : zdc s = zhr s n ((zjg s).extract (4 + k) (zjg s).size) := by unfold zdc; rw [hv, if_neg (by simp), if_neg (by simp), if_neg h, ha]; unfold yhf; rw [if_neg (by simp)]
theorem zyl (hX : X = zhr s n t) (h : byteOf s 3 = 1) (hl : zex t = (u, e, p)) (he : e ≠ 0) : X = (noB, e, -1) := by rw [hX]; unfold zhr; rw [if_pos h, hl, if_pos he]
theorem zoo (hX : X = zhr s n t) (h : byteOf s 3 = 1) (hl : zex t = (u, 0, p)) : X = znz s n u := by rw [hX]; unfold zhr; rw [if_pos h, hl, if_neg (by simp)]
theorem zwx (hX : X = zhr s n t) (h : ¬ byteOf s 3 = 1) : X = znz s n t := by rw [hX]; unfold zhr; rw [if_neg h]
theorem zxy (hX : X = znz s n t) (h : t.size ≠ n) : X = (noB, 2, -1) := by rw [hX]; unfold znz; rw [if_pos h]
theorem zqc (hX : X = znz s n t) (h : ¬ t.size ≠ n) : X = zix s (zcj t) := by rw [hX]; unfold znz; rw [if_neg h]
theorem zxt (hX : X = zix s (zcj t)) (h : (zcj t).2.1 ≠ 0) : X = (noB, (zcj t).2) := by rw [hX]; unfold zix; rw [if_pos h]
theorem zij (hX : X = zix s (zcj t)) (h : ¬ (zcj t).2.1 ≠ 0) (h2 : (zcl (zcb (zcj t).1.1 (zcj t).1.2.1 (zcj t).1.2.2)).1 ≠ s) : X = (noB, 13, -1) := by rw [hX]; unfold zix; rw [if_neg h, if_pos h2]
theorem yik (hX : X = zix s (zcj t)) (h : ¬ (zcj t).2.1 ≠ 0) (h2 : ¬ (zcl (zcb (zcj t).1.1 (zcj t).1.2.1 (zcj t).1.2.2)).1 ≠ s) : X = zcj t := by rw [hX]; unfold zix; rw [if_neg h, if_neg h2]
end
def zct (x : BR) : Prop := x.2.1 = 0 → (zbd x.1.1 x.1.2.1 x.1.2.2).1 = 0
theorem zct.no {e q : Int} : zct (noB, e, q) := fun _ => rfl
theorem zzj (s : ByteArray) (f h : List Ent) (T : List ByteArray) (at_ : List Int) (ws : List Wr) (p : Nat) : zct (bend s f h T at_ ws p) := by
 unfold bend;split
 ·exact .no
 ·split
  ·exact .no
  ·split
   ·exact .no
   ·rename_i h1; intro _; simpa using h1
theorem yew (s : ByteArray) (f h : List Ent) (T : List ByteArray) : ∀ (c p tm : Nat) (at_ : List Int) (ws : List Wr), zct (bws s f h T c p tm at_ ws) := by
 intro c;induction c with
 | zero => intro p tm at_ ws; exact zzj s f h T at_ ws p
 | succ c ih =>
  intro p tm at_ ws;rw [bws];split
  ·exact .no
  ·exact ih _ _ _ _
theorem zwd (s : ByteArray) (f h : List Ent) : ∀ (c p : Nat) (T : List ByteArray), zct (zgq s f h c p T) := by
 intro c;induction c with
 | zero =>
  intro p T;rw [zgq];split
  ·exact .no
  ·exact yew _ _ _ _ _ _ _ _ _
 | succ c ih =>
  intro p T;rw [zgq];split
  ·exact .no
  ·exact ih _ _
theorem zia (s : ByteArray) : zct (zcj s) := by
 unfold zcj;split
 ·exact .no
 ·split
  ·exact .no
  ·unfold zvk;split
   ·exact .no
   ·unfold btab;split
    ·exact .no
    ·exact zwd _ _ _ _ _ _
theorem zfv {l : List Ent} (h : (zaf l).1 = 0) : ∀ y ∈ l, zbe y := by
 intro y hy;have := (znt h).1 y hy;unfold zeh at this;unfold zbe;omega
theorem ykp : ∀ (l : List Tok) (out : List UInt8), TOk l out.length → (l.foldl zny out).length ≤ 20000 := by
 intro l;induction l with
 | nil => intro out h; exact h
 | cons t l ih =>
  intro out h;simp only [List.foldl_cons];refine ih _ ?_;rcases h with ⟨h1, _, _, _, h⟩ | ⟨h1, _, _, _, _, _, _, h⟩
  ·unfold zny;rw [if_pos h1, List.length_append];have : t.1.data.toList.length = t.1.size := by simp
   rw [this]; exact h
  ·unfold zny;rw [if_neg (by omega), zqs]; exact h
theorem ygr (l : List Tok) : (textOf l).1.size ≤ 20000 := by
 unfold textOf;split
 ·exact Nat.zero_le _
 ·rename_i h;have := ykp l [] (zhu (by simpa using h));show (ztn l).toArray.size ≤ _;unfold ztn;simpa using this
theorem zug (s : ByteArray) : (zex s).1.size ≤ 20000 := by
 unfold zex;split
 ·exact Nat.zero_le _
 ·exact ygr _
end Go.Proofs.YtkejlnjnoiidnaaGreatDoor
end

section
namespace Go.Proofs.YtkejlnjnoiidnaaGreatDoor
abbrev bad0 (e : Int) : BR := (noB, e, -1)
def onum (s : ByteArray) (p : Nat) (most : Int) (K : Nat → Nat → BR) : BR := if (vat s p most).2.2 ≠ 0 then bad0 (vat s p most).2.2 else K (vat s p most).1 (p + (vat s p most).2.1)
def zhb (s : ByteArray) : Nat → Nat → List Ent → (List Ent → Nat → BR) → BR
 | 0, p, acc, K => K acc p
 | c + 1, p, acc, K => onum s p 200 fun r p => onum s p 1099511627776 fun t p => zhb s c p (acc ++ [((r : Int), (t : Int))]) K
def ovec (s : ByteArray) (p : Nat) (K : List Ent → Nat → BR) : BR := onum s p 16 fun n p => zhb s n p [] K
def zre (s : ByteArray) (p : Nat) (x : Wr) (K : Wr → Nat → BR) : BR :=
 if (zcy x (s.extract p s.size)).2.2 ≠ 0 then bad0 (zcy x (s.extract p s.size)).2.2 else K (zcy x (s.extract p s.size)).1 (p + (zcy x (s.extract p s.size)).2.1)
def okey (s : ByteArray) (p : Nat) (t r kd : Nat) (K : Wr → Nat → BR) : BR :=
 if (zaq (s.extract p s.size)).2.2 ≠ 0 then bad0 (zaq (s.extract p s.size)).2.2
 else zre s (p + (zaq (s.extract p s.size)).2.1) ((t : Int), (r : Int), (kd : Int), (zaq (s.extract p s.size)).1, ⟨#[]⟩, 0) K
def zfg (s : ByteArray) (p : Nat) (K : Wr → Nat → BR) : BR :=
 if s.size ≤ p then bad0 7
 else if byteOf s p < 1 ∨ 4 < byteOf s p then bad0 1
 else onum s (p + 1) 1099511627776 fun t q => onum s q 200 fun r q => okey s q t r (byteOf s p) K
def oend (s : ByteArray) (f h : List Ent) (ws : List Wr) (p : Nat) : BR := if p < s.size then bad0 3 else if (zbd f h ws).1 ≠ 0 then bad0 (zbd f h ws).1 else ((f, h, ws), 0, -1)
def zbk (s : ByteArray) (f h : List Ent) : Nat → Nat → List Wr → BR
 | 0, p, ws => oend s f h ws p
 | c + 1, p, ws => zfg s p fun w q => zbk s f h c q (ws ++ [w])
def oall (s : ByteArray) : BR := ovec s 0 fun f p => ovec s p fun h p => onum s p 60 fun n p => zbk s f h n p []
def zgz (s : ByteArray) : BR :=
 if (fver s).2 ≠ 0 then bad0 (fver s).2
 else if (fver s).1 = 3 then bad0 6
 else if (fver s).1 = 2 then zcj (s.extract 3 (s.size - 4)) else oall (s.extract 3 (s.size - 4))
section
variable {s : ByteArray} {p n k c : Nat} {most v e : Int} {X : BR} {f h : List Ent} {ws : List Wr} {x y : Wr} {b : ByteArray}
theorem zer {K : Nat → Nat → BR} (ha : vat s p most = (n, k, e)) (he : e ≠ 0) : onum s p most K = bad0 e := by unfold onum; rw [ha, if_pos he]
theorem zfw {K : Nat → Nat → BR} (ha : vat s p most = (n, k, 0)) : onum s p most K = K n (p + k) := by unfold onum; rw [ha, if_neg (by simp)]
theorem zue {K : Wr → Nat → BR} (ha : zcy x (s.extract p s.size) = (y, n, e)) (he : e ≠ 0) : zre s p x K = bad0 e := by unfold zre; rw [ha, if_pos he]
theorem zxo {K : Wr → Nat → BR} (ha : zcy x (s.extract p s.size) = (y, n, 0)) : zre s p x K = K y (p + n) := by unfold zre; rw [ha, if_neg (by simp)]
theorem zwm {K : Wr → Nat → BR} {t r kd : Nat} (ha : zaq (s.extract p s.size) = (b, n, e)) (he : e ≠ 0) : okey s p t r kd K = bad0 e := by unfold okey; rw [ha, if_pos he]
theorem zvx {K : Wr → Nat → BR} {t r kd : Nat} (ha : zaq (s.extract p s.size) = (b, n, 0)) : okey s p t r kd K = zre s (p + n) ((t : Int), (r : Int), (kd : Int), b, ⟨#[]⟩, 0) K := by unfold okey; rw [ha, if_neg (by simp)]
theorem zow {K : Wr → Nat → BR} (h : s.size ≤ p) : zfg s p K = bad0 7 := by unfold zfg; rw [if_pos h]
theorem zlz {K : Wr → Nat → BR} (h : ¬ s.size ≤ p) (h2 : byteOf s p < 1 ∨ 4 < byteOf s p) : zfg s p K = bad0 1 := by unfold zfg; rw [if_neg h, if_pos h2]
theorem ztq {K : Wr → Nat → BR} (h : ¬ s.size ≤ p) (h2 : ¬ (byteOf s p < 1 ∨ 4 < byteOf s p)) : zfg s p K = onum s (p + 1) 1099511627776 fun t q => onum s q 200 fun r q => okey s q t r (byteOf s p) K := by unfold zfg; rw [if_neg h, if_neg h2]
theorem zto (h1 : p < s.size) : oend s f h ws p = bad0 3 := by unfold oend; rw [if_pos h1]
theorem zyr (h1 : ¬ p < s.size) (h2 : (zbd f h ws).1 ≠ 0) : oend s f h ws p = bad0 (zbd f h ws).1 := by unfold oend; rw [if_neg h1, if_pos h2]
theorem ycm (h1 : ¬ p < s.size) (h2 : (zbd f h ws).1 = 0) : oend s f h ws p = ((f, h, ws), 0, -1) := by unfold oend; rw [if_neg h1, if_neg (by omega)]
theorem ztf (hv : fver s = (v, e)) (he : e ≠ 0) : zgz s = bad0 e := by unfold zgz; rw [hv, if_pos he]
theorem znf (hv : fver s = (3, 0)) : zgz s = bad0 6 := by unfold zgz; rw [hv, if_neg (by simp), if_pos rfl]
theorem ztt (hv : fver s = (2, 0)) : zgz s = zcj (s.extract 3 (s.size - 4)) := by unfold zgz; rw [hv, if_neg (by simp), if_neg (by simp), if_pos rfl]
theorem zrr (hv : fver s = (1, 0)) : zgz s = oall (s.extract 3 (s.size - 4)) := by unfold zgz; rw [hv, if_neg (by simp), if_neg (by simp), if_neg (by simp)]
end
end Go.Proofs.YtkejlnjnoiidnaaGreatDoor
end

section
namespace Go.Proofs.YtkejlnjnoiidnaaGreatDoor.Crc
open Go.RowKit
theorem retI {k : IntKind} {a b : Int} (h : a = b) : Ending.returned (.int k a) = .returned (.int k b) := by rw [h]
theorem valI {k : IntKind} {a b : Int} (h : a = b) : Value.int k a = .int k b := by rw [h]
theorem and_one (m : Nat) (h : m < 4294967296) : bits BinOp.and IntKind.u32 (m : Int) 1 = ((m % 2 : Nat) : Int) := by
 have e := u32_and_nat m 1 h (by omega);rw [nat_mask1] at e;exact e
theorem zyv (m : Nat) (h : m < 4294967296) : bits BinOp.xor IntKind.u32 ((m : Int) / 2) 2197175160 = ((m / 2 ^^^ poly : Nat) : Int) := by
 have e := u32_xor_nat (m / 2) poly (by omega) ycj;have e1 : ((m / 2 : Nat) : Int) = (m : Int) / 2 := by omega
 rw [e1] at e;exact e
theorem yjr (m : Nat) (h : m < 4294967296) (t : (bits BinOp.and IntKind.u32 (m : Int) 1 == 1) = true) :
  bits BinOp.xor IntKind.u32 ((m : Int) / 2) 2197175160 = (stp m : Int) := by
 rw [and_one m h] at t;have t' : m % 2 = 1 := by
  have := beq_iff_eq.1 t;omega
 rw [zyv m h];unfold stp;rw [if_pos t']
theorem ygp (m : Nat) (h : m < 4294967296) (t : (bits BinOp.and IntKind.u32 (m : Int) 1 == 1) = false) :
  (m : Int) / 2 = (stp m : Int) := by
 rw [and_one m h] at t;have t' : m % 2 ≠ 1 := by
  have := beq_eq_false_iff_ne.1 t;omega
 unfold stp;rw [if_neg t'];omega
theorem one_any (n : Nat) (w : World) (h : n < 4294967296) :
  Calls Tryz.prog 145 #[.int .u32 (n : Int)] w fun e w' => e = .returned (.int .u32 (one n : Int)) ∧ w = w' := by
 go_enter Tryz.func145, Tryz.ntmps145;go_wp2;go_loop [0, 3] (fun v i => ∃ k : Nat, k ≤ 8 ∧ i = .int .i64 k ∧ v = .int .u32 (iter k n : Int)) (fun _ i => 8 - (intOf i).toNat)
 case atStart => exact ⟨0, by omega, rfl, rfl⟩
 case round =>
  obtain ⟨k, hk, rfl, rfl⟩ := hrel;have hb := zwa k h;have hs := Lib.hid (ybk k n);go_wp2
  ·go_round
   case rel => exact ⟨k + 1, by omega, by go_num, valI (by rw [hs.out]; exact yjr _ hb (by assumption))⟩
   case measure => simp [intOf]; omega
  ·go_round
   case rel => exact ⟨k + 1, by omega, by go_num, valI (by rw [hs.out]; exact ygp _ hb (by assumption))⟩
   case measure => simp [intOf]; omega
  ·go_ret;obtain rfl : k = 8 := by omega
   exact ⟨rfl, rfl⟩
/- Complements. -/
theorem zuz (m : Nat) (h : m < 4294967296) : bits BinOp.xor IntKind.u32 IntKind.u32.max (m : Int) = ((4294967295 - m : Nat) : Int) := by
 show IntKind.u32.wrap ((BitVec.ofInt 32 IntKind.u32.max ^^^ BitVec.ofInt 32 (m : Int)).toNat : Int) = _;have h1 : BitVec.ofInt 32 IntKind.u32.max = BitVec.allOnes 32 := by decide
 rw [h1, BitVec.allOnes_xor, BitVec.toNat_not, ofInt_u32 m h, IntKind.wrap_u32'];omega
theorem byte_at (s : ByteArray) (k : Nat) (h : k < s.size) : (s.data.toList.getD k 0) = s[k] := by
 have h' : k < s.data.toList.length := by simpa using h
 simp only [List.getD, List.getElem?_eq_getElem h', Option.getD_some];rfl
theorem ylo (n : Nat) (b : UInt8) (h : n < 4294967296) :
  bits BinOp.xor IntKind.u32 (bits BinOp.and IntKind.u32 (n : Int) 255) ((b.toNat : Int) % 4294967296) = ((n % 256 ^^^ b.toNat : Nat) : Int) := by
 have hb := b.toNat_lt;have e := u32_and_nat n 255 h (by omega);rw [nat_mask8] at e;have e1 : (b.toNat : Int) % 4294967296 = (b.toNat : Int) := by omega
 rw [e1];have e2 : bits BinOp.and IntKind.u32 (n : Int) 255 = ((n % 256 : Nat) : Int) := e;rw [e2];exact u32_xor_nat _ _ (by omega) (by omega)
theorem zpg (n : Nat) (b : UInt8) : n % 256 ^^^ b.toNat < 4294967296 := by
 have := Nat.xor_lt_two_pow (n := 8) (x := n % 256) (y := b.toNat) (by omega) b.toNat_lt;omega
theorem ygg (n : Nat) (b : UInt8) (h : n < 4294967296) :
  bits BinOp.xor IntKind.u32 (one (n % 256 ^^^ b.toNat) : Int) ((n : Int) / 256) = (zgt n b.toNat : Int) := by
 have e1 : (n : Int) / 256 = ((n / 256 : Nat) : Int) := by omega
 rw [e1];exact u32_xor_nat _ _ (zwa 8 (zpg n b)) (by omega)
theorem take_snoc (s : ByteArray) (k : Nat) (h : k < s.size) : s.data.toList.take (k + 1) = s.data.toList.take k ++ [s[k]] := by
 rw [List.take_succ_eq_append_getElem (by simpa using h)]; rfl
theorem yhs (n : Nat) (s : ByteArray) (k : Nat) (h : k < s.size) : run n (s.data.toList.take (k + 1)) = zgt (run n (s.data.toList.take k)) s[k].toNat := by
 rw [take_snoc s k h, zxj]
def more (n : Nat) (l : List UInt8) : Nat := 4294967295 - run (4294967295 - n) l
theorem yfo (n : Nat) (s : ByteArray) (w : World) (hn : n < 4294967296) (hs : s.size ≤ maxLen) :
  Calls Tryz.prog 126 #[.int .u32 (n : Int), .string s] w fun e w' => e = .returned (.int .u32 (more n s.data.toList : Int)) ∧ w = w' := by
 unfold maxLen at hs;go_enter Tryz.func126, Tryz.ntmps126;go_wp2;go_loop [0, 5, 10] (fun v _ i => ∃ k : Nat, k ≤ s.size ∧ i = .int .i64 k ∧ v = .int .u32 (run (4294967295 - n) (s.data.toList.take k) : Int)) (fun _ _ i => s.size - (intOf i).toNat)
 case atStart => exact ⟨0, by omega, rfl, valI (zuz n hn)⟩
 case round =>
  obtain ⟨k, hk, rfl, rfl⟩ := hrel;have hb := yeq (n := 4294967295 - n) (by omega) (s.data.toList.take k);by_cases hlt : k < s.size
  ·have hstep := Lib.hid (yhs (4294967295 - n) s k hlt);have hout := Lib.hid (ygg (run (4294967295 - n) (s.data.toList.take k)) s[k] hb);have hin := Lib.hid (ylo (run (4294967295 - n) (s.data.toList.take k)) s[k] hb);go_wp2_with fail;rw [hin.out];refine (one_any _ _ (zpg _ _)).mono ?_;rintro e w' ⟨rfl, rfl⟩;go_wp2_with fail;go_round
   case rel => exact ⟨k + 1, by omega, by go_num, valI (by rw [hstep.out]; exact hout.out)⟩
   case measure => simp [intOf]; omega
  ·obtain rfl : k = s.size := by omega
   go_wp2_with fail;go_ret;have e : s.data.toList.take s.size = s.data.toList := List.take_of_length_le (by simp);rw [e] at hb ⊢;exact ⟨retI (zuz _ hb), rfl⟩
theorem yje (n : Nat) (b : UInt8) (j : Nat) (h : n < 4294967296) :
  bits BinOp.xor IntKind.u32 (bits BinOp.and IntKind.u32 (n : Int) 1) (bits BinOp.and IntKind.u32 ((b.toNat : Int) / 2 ^ j % 4294967296) 1) = ((n % 2 ^^^ (b.toNat / 2 ^ j % 2) : Nat) : Int) := by
 have hb := b.toNat_lt;have hd : b.toNat / 2 ^ j ≤ b.toNat := Nat.div_le_self _ _;have e1 : (b.toNat : Int) / 2 ^ j % 4294967296 = ((b.toNat / 2 ^ j : Nat) : Int) := by
  have e0 : ((b.toNat / 2 ^ j : Nat) : Int) = (b.toNat : Int) / 2 ^ j := by simp
  rw [← e0];generalize b.toNat / 2 ^ j = q at hd ⊢;omega
 rw [e1, and_one n h, and_one _ (by omega)];exact u32_xor_nat _ _ (by omega) (by omega)
theorem ycx (n : Nat) (s : ByteArray) (k : Nat) (h : n < 4294967296) (hlt : k < 8 * s.size) (h8 : k / 8 < s.size)
  (t : (bits BinOp.xor IntKind.u32 (bits BinOp.and IntKind.u32 (carried n s.data.toList k : Int) 1) (bits BinOp.and IntKind.u32 ((s[k / 8].toNat : Int) / 2 ^ (k % 8) % 4294967296) 1) == 1) = true) :
  bits BinOp.xor IntKind.u32 ((carried n s.data.toList k : Int) / 2) 2197175160 = (carried n s.data.toList (k + 1) : Int) := by
 have hc := zkq h s.data.toList k;rw [yje _ _ _ hc] at t;have t' := beq_iff_eq.1 t;rw [zyv _ hc, zlk n _ k (by simpa using hlt), znb _ _ (by omega), byte_at s _ h8, if_pos (by omega)]
theorem yfr (n : Nat) (s : ByteArray) (k : Nat) (h : n < 4294967296) (hlt : k < 8 * s.size) (h8 : k / 8 < s.size)
  (t : (bits BinOp.xor IntKind.u32 (bits BinOp.and IntKind.u32 (carried n s.data.toList k : Int) 1) (bits BinOp.and IntKind.u32 ((s[k / 8].toNat : Int) / 2 ^ (k % 8) % 4294967296) 1) == 1) = false) :
  (carried n s.data.toList k : Int) / 2 = (carried n s.data.toList (k + 1) : Int) := by
 have hc := zkq h s.data.toList k;rw [yje _ _ _ hc] at t;have t' := beq_eq_false_iff_ne.1 t;rw [zlk n _ k (by simpa using hlt), znb _ _ (by omega), byte_at s _ h8, if_neg (by omega)];omega
theorem yfe (n : Nat) (s : ByteArray) (w : World) (h : n < 4294967296) (hs : s.size ≤ 1000000) :
  Calls Tryz.prog 121 #[.int .u32 (n : Int), .string s] w fun e w' => e = .returned (.int .u32 (run n s.data.toList : Int)) ∧ w = w' := by
 go_enter Tryz.func121, Tryz.ntmps121;go_wp2;go_loop [0, 5] (fun v i => ∃ k : Nat, k ≤ 8 * s.size ∧ i = .int .i64 k ∧ v = .int .u32 (carried n s.data.toList k : Int)) (fun _ i => 8 * s.size - (intOf i).toNat)
 case atStart => exact ⟨0, by omega, rfl, valI (by rw [zso])⟩
 case round =>
  obtain ⟨k, hk, rfl, rfl⟩ := hrel;have hb := zkq h s.data.toList k;by_cases hlt : k < 8 * s.size
  ·have h8 : k / 8 < s.size := by omega
   go_wp2_with fail
   ·go_round
    case rel => exact ⟨k + 1, by omega, by go_num, valI (ycx n s k h hlt h8 (by assumption))⟩
    case measure => simp [intOf]; omega
   ·go_round
    case rel => exact ⟨k + 1, by omega, by go_num, valI (yfr n s k h hlt h8 (by assumption))⟩
    case measure => simp [intOf]; omega
  ·obtain rfl : k = 8 * s.size := by omega
   go_wp2_with fail;go_ret;have e : carried n s.data.toList (8 * s.size) = run n s.data.toList := by
    rw [← zuu n s.data.toList]; simp
   exact ⟨retI (by rw [e]), rfl⟩
theorem yge (s : ByteArray) (w : World) (hs : s.size ≤ 1000000) :
  Calls Tryz.prog 78 #[.string s] w fun e w' => e = .returned (.int .u32 (more 0 s.data.toList : Int)) ∧ w = w' := by
 go_enter Tryz.func78, Tryz.ntmps78;go_wp2_with fail;refine (yfe 4294967295 s _ (by omega) hs).mono ?_;rintro e w' ⟨rfl, rfl⟩;go_wp2_with fail;go_ret;exact ⟨retI (zuz _ (yeq (by omega) _)), rfl⟩
theorem sum_any (s : ByteArray) (w : World) (hs : s.size ≤ maxLen) :
  Calls Tryz.prog 85 #[.string s] w fun e w' => e = .returned (.int .u32 (more 0 s.data.toList : Int)) ∧ w = w' := by
 go_enter Tryz.func85, Tryz.ntmps85;go_wp2_with fail;refine (yfo 0 s _ (by omega) hs).mono ?_;rintro e w' ⟨rfl, rfl⟩;go_wp2_with fail;go_ret;exact ⟨rfl, rfl⟩
end Go.Proofs.YtkejlnjnoiidnaaGreatDoor.Crc
end

section
namespace Go.Proofs.YtkejlnjnoiidnaaGreatDoor
open Go.RowKit As
theorem zpm {P : Program} (w : World) (src e dst t : TypeId) (vs : Array Value) (l : List UInt8) (n : Nat) (hv : vs = (l.map zit).toArray) (hn : n = l.length) (hs : P.underlying src = some (.slice e)) (he : P.underlying e = some (.int .u8)) (hd : P.underlying dst = some .string) :
  (convert src dst (.slice (some ⟨w.heap.size, 0, none⟩) n n)).run P (w.alloc (.cells vs t)) = .ok (.string (strOf l)) (w.alloc (.cells vs t)) := by
 subst hv hn;refine zjn _ src e dst _ _ l hs he hd fun i hi => ⟨?_, ?_⟩
 ·rw [World.cell?_alloc_new];simp [List.getElem?_map, List.getElem?_eq_getElem hi]
 ·simp only [World.alloc, World.frozen?, Array.getElem?_push_size];simp
set_option maxRecDepth 100000 in
theorem zlr (s : ByteArray) (w : World) (hs : s.size ≤ 1000000) :
  Calls Tryz.prog 41 #[.string s] w fun e w' => e = .returned (.string (zed s)) ∧ Below w.heap.size w w' := by
 obtain ⟨n, hn⟩ : ∃ n, n = ydj s := ⟨_, rfl⟩;have hlt := zxk s;rw [← hn] at hlt;have HN := Lib.hid hn;clear hn;go_enter Tryz.func41, Tryz.ntmps41;go_wp2_with fail;refine (Crc.sum_any s w (by unfold maxLen; omega)).mono ?_;rintro e w' ⟨rfl, rfl⟩;rw [show Crc.more 0 s.data.toList = n from HN.out.symm];go_wp2_with fail;rw [zpm w 61 5 9 5 _ (lowB 4 n) 4 (by rw [ydf]; simp [zit]; omega) (zqw 4 n).symm Tryz.underlying61 Tryz.underlying5 Tryz.underlying9];have h4 : (strOf (lowB 4 n)).size = 4 := yco n;generalize hF : strOf (lowB 4 n) = F at *;have HF := Lib.hid hF;clear hF;have hcat : s.size + F.size ≤ 9223372036854775807 := by omega
 go_wp2_with fail;go_ret;exact ⟨by unfold zed four; rw [← HN.out, HF.out]; rfl, zaa _ _⟩
set_option maxRecDepth 100000 in
theorem zjz (s : ByteArray) (w : World) (hs : s.size ≤ 1000000) :
  Calls Tryz.prog 34 #[.string s] w fun e w' => e = .returned (.string (zed s)) ∧ Below w.heap.size w w' := by
 obtain ⟨n, hn⟩ : ∃ n, n = ydj s := ⟨_, rfl⟩;have hlt := zxk s;rw [← hn] at hlt;have HN := Lib.hid hn;clear hn;have h0 := Lib.hid (zry s);go_enter Tryz.func34, Tryz.ntmps34;go_wp2_with fail;refine (Crc.yge s w (by omega)).mono ?_;rintro e w' ⟨rfl, rfl⟩;rw [show Crc.more 0 s.data.toList = n from HN.out.symm];go_wp2;go_loopw [0, 3, 6] (fun a m i wr => ∃ k : Nat, k ≤ 4 ∧ i = .int .i64 k ∧ m = .int .u32 ((n / 256 ^ k : Nat) : Int) ∧ a = .string (s ++ strOf (lowB k n)) ∧ Below w.heap.size w wr) (fun _ _ i _ => 4 - (intOf i).toNat)
 case atStart => exact ⟨0, by omega, rfl, by simp, by rw [show lowB 0 n = [] from rfl, h0.out], Below.refl _ _⟩
 case round =>
  obtain ⟨k, hk, rfl, rfl, rfl, hbel⟩ := hrel;have hB := hbel.size;by_cases hlt : k < 4
  ·have hsn := Lib.hid (yar k n);have hl := zqw k n;obtain ⟨m, hm⟩ : ∃ m, m = n / 256 ^ k := ⟨_, rfl⟩;have hmn : m ≤ n := by rw [hm]; exact Nat.div_le_self _ _
   rw [← hm];have hnx := Lib.hid (show n / 256 ^ (k + 1) = m / 256 by rw [hm, Nat.div_div_eq_div_mul, Nat.pow_succ]);have HM := Lib.hid hm;clear hm;have hsz : (s ++ strOf (lowB k n)).size = s.size + k := by rw [ByteArray.size_append, zez (lowB k n), hl]
   obtain ⟨T, hT⟩ : ∃ T, T = s ++ strOf (lowB k n) := ⟨_, rfl⟩;rw [← hT] at hsz ⊢;have HT := Lib.hid hT;clear hT;go_wp2_with fail;rw [zpm wr 61 5 9 5 _ [UInt8.ofNat (m % 256)] 1 (by simp [zit]) rfl Tryz.underlying61 Tryz.underlying5 Tryz.underlying9];have h1 : (strOf [UInt8.ofNat (m % 256)]).size = 1 := rfl;generalize hF : strOf [UInt8.ofNat (m % 256)] = F at *;have HF := Lib.hid hF;clear hF;have hcat : T.size + F.size ≤ 9223372036854775807 := by omega
   go_wp2_with fail;go_roundw
   case rel => exact ⟨k + 1, by omega, by go_num, valI (by rw [hnx.out]; omega), by rw [HT.out, hsn.out, zeu, ← yfi, ← HF.out, HM.out], hbel.alloc hB _⟩
   case measure => simp [intOf]; omega
  ·obtain rfl : k = 4 := by omega
   go_wp2_with fail;go_ret;exact ⟨by unfold zed; rw [← HN.out]; rfl, hbel⟩
set_option maxRecDepth 100000 in
theorem open_any (s : ByteArray) (w : World) (hs : s.size ≤ 1000000) :
  Calls Tryz.prog 69 #[.string s] w fun e w' => e = .returned (.tuple #[.string (zet s).1, errV (zet s).2]) ∧ Below w.heap.size w w' := by
 by_cases h4 : s.size < 4
 ·have H := Lib.hid (zom h4);have hd : decide (s.size < 4) = true := by simpa using h4
  go_enter Tryz.func69, Tryz.ntmps69;go_wp2;go_ret2;exact ⟨by rw [H.out]; rfl, Below.refl _ _⟩
 ·have hd : decide (s.size < 4) = false := by simpa using h4
  have hsz : (s.extract 0 (s.size - 4)).size = s.size - 4 := by rw [ByteArray.size_extract]; omega
  have he := Lib.hid (show (s.extract 0 (s.size - 4)).size ≤ 1000000 by omega);clear hsz;by_cases hg : zed (s.extract 0 (s.size - 4)) = s
  ·have H := Lib.hid (zmq h4 hg);have Hg := Lib.hid hg;clear hg;go_enter Tryz.func69, Tryz.ntmps69;go_wp2_with fail;refine (zlr _ w he.out).mono ?_;rintro e w' ⟨rfl, hb⟩;rw [Hg.out];go_wp2;go_ret2;exact ⟨by rw [H.out]; rfl, hb⟩
  ·have H := Lib.hid (zrg h4 hg);obtain ⟨Z, hZ⟩ : ∃ Z, Z = zed (s.extract 0 (s.size - 4)) := ⟨_, rfl⟩;rw [← hZ] at hg;have HZ := Lib.hid hZ;clear hZ;have hne := zdt hg;clear hg;go_enter Tryz.func69, Tryz.ntmps69;go_wp2_with fail;refine (zlr _ w he.out).mono ?_;rintro e w' ⟨rfl, hb⟩;rw [← HZ.out];go_wp2;go_ret2;exact ⟨by rw [H.out]; rfl, hb⟩
set_option maxRecDepth 100000 in
theorem zkh (s : ByteArray) (w : World) (hs : s.size ≤ 1000000) :
  Calls Tryz.prog 48 #[.string s] w fun e w' => e = .returned (.tuple #[.string (zet s).1, .int .i64 (zet s).2]) ∧ Below w.heap.size w w' := by
 by_cases h4 : s.size < 4
 ·have H := Lib.hid (zom h4);have hd : decide (s.size < 4) = true := by simpa using h4
  go_enter Tryz.func48, Tryz.ntmps48;go_wp2;go_ret2;exact ⟨by rw [H.out]; rfl, Below.refl _ _⟩
 ·have hd : decide (s.size < 4) = false := by simpa using h4
  have hsz : (s.extract 0 (s.size - 4)).size = s.size - 4 := by rw [ByteArray.size_extract]; omega
  have he := Lib.hid (show (s.extract 0 (s.size - 4)).size ≤ 1000000 by omega);clear hsz;by_cases hg : zed (s.extract 0 (s.size - 4)) = s
  ·have H := Lib.hid (zmq h4 hg);have Hg := Lib.hid hg;clear hg;go_enter Tryz.func48, Tryz.ntmps48;go_wp2_with fail;refine (zjz _ w he.out).mono ?_;rintro e w' ⟨rfl, hb⟩;rw [Hg.out];go_wp2;go_ret2;exact ⟨by rw [H.out]; rfl, hb⟩
  ·have H := Lib.hid (zrg h4 hg);obtain ⟨Z, hZ⟩ : ∃ Z, Z = zed (s.extract 0 (s.size - 4)) := ⟨_, rfl⟩;rw [← hZ] at hg;have HZ := Lib.hid hZ;clear hZ;have hne := zdt hg;clear hg;go_enter Tryz.func48, Tryz.ntmps48;go_wp2_with fail;refine (zjz _ w he.out).mono ?_;rintro e w' ⟨rfl, hb⟩;rw [← HZ.out];go_wp2;go_ret2;exact ⟨by rw [H.out]; rfl, hb⟩
end Go.Proofs.YtkejlnjnoiidnaaGreatDoor
end

section
namespace Go.Proofs.YtkejlnjnoiidnaaGreatDoor
open Go.RowKit As
theorem yea : (⟨#[80, 84]⟩ : ByteArray).toList = [80, 84] := by rw [ByteArray.toList_eq]
theorem ymh {x : ByteArray} (h : ¬ x = ⟨#[80, 84]⟩) : (!(x.toList == [80, 84])) = true ∧ (x.toList == [80, 84]) = false := by
 have := zdt h;rw [yea] at this;exact ⟨this, by simpa using this⟩
theorem ync {x : ByteArray} (h : x = ⟨#[80, 84]⟩) : (!(x.toList == [80, 84])) = false ∧ (x.toList == [80, 84]) = true := by
 subst h;rw [yea];exact ⟨rfl, rfl⟩
theorem ymr {n : Nat} (h : n < 1 ∨ 3 < n) : (decide ((n : Int) < 1) = true ∧ decide (n < 1) = true) ∨ (decide ((n : Int) < 1) = false ∧ decide (n < 1) = false ∧ decide (3 < (n : Int)) = true ∧ decide (3 < n) = true) := by
 rcases Nat.lt_or_ge n 1 with h1 | h1
 ·exact .inl ⟨by simp only [decide_eq_true_eq]; omega, by simpa using h1⟩
 ·exact .inr ⟨by simp only [decide_eq_false_iff_not]; omega, by simp only [decide_eq_false_iff_not]; omega, by simp only [decide_eq_true_eq]; omega, by simp only [decide_eq_true_eq]; omega⟩
theorem ykq {n : Nat} (h : ¬ (n < 1 ∨ 3 < n)) : decide ((n : Int) < 1) = false ∧ decide (n < 1) = false ∧ decide (3 < (n : Int)) = false ∧ decide (3 < n) = false :=
 ⟨by simp only [decide_eq_false_iff_not]; omega, by simp only [decide_eq_false_iff_not]; omega, by simp only [decide_eq_false_iff_not]; omega, by simp only [decide_eq_false_iff_not]; omega⟩
theorem ygj {n : Nat} : inB (n : Int) 1 3 = decide (¬ (n < 1 ∨ 3 < n)) := by
 unfold inB;rw [Bool.eq_iff_iff];simp only [Bool.and_eq_true, decide_eq_true_eq];omega
set_option maxHeartbeats 2000000 in
set_option maxRecDepth 100000 in
theorem zfq (s : ByteArray) (w : World) (hs : s.size ≤ 1000000) :
  Calls Tryz.prog 22 #[.string s] w fun e w' => e = .returned (.tuple #[.int .i64 (fver s).1, errV (fver s).2]) ∧ Below w.heap.size w w' := by
 by_cases h8 : s.size < 8
 ·have H := Lib.hid (zpf h8);have d : decide (s.size < 8) = true := by simpa using h8
  have d' : decide ((s.size : Int) < 8) = true := decide_eq_true (by omega);clear h8;go_enter Tryz.func22, Tryz.ntmps22;go_wp2;go_ret2;exact ⟨by rw [H.out]; rfl, Below.refl _ _⟩
 ·have d : decide (s.size < 8) = false := by simpa using h8
  have d' : decide ((s.size : Int) < 8) = false := decide_eq_false (by omega);have i2 : 2 ≤ s.size := by omega
  have i3 : 2 < s.size := by omega
  by_cases hn : s.extract 0 2 = ⟨#[80, 84]⟩
  ·obtain ⟨n1, n2⟩ := ync hn;have HN := Lib.hid hn;have hq := zdv s 2 i3;have H8 := Lib.hid h8;clear h8 hn;by_cases hr : byteOf s 2 < 1 ∨ 3 < byteOf s 2
   ·have H := Lib.hid (zsq H8.out HN.out hr);rw [hq] at hr;rcases ymr hr with ⟨r1, r2⟩ | ⟨r1, r2, r3, r4⟩
    all_goals
     clear hr hq;go_enter Tryz.func22, Tryz.ntmps22;go_wp2;go_ret2;exact ⟨by rw [H.out]; rfl, Below.refl _ _⟩
   ·have HR := Lib.hid hr;rw [hq] at hr;obtain ⟨r1, r2, r3, r4⟩ := ykq hr;have HQ := Lib.hid hq;clear hr hq;go_enter Tryz.func22, Tryz.ntmps22;go_wp2_with fail;refine (open_any s _ hs).mono ?_;rintro r w1 ⟨rfl, hb1⟩;obtain ⟨⟨t, e⟩, hy⟩ : ∃ y, zet s = y := ⟨_, rfl⟩;have HY := Lib.hid hy;rw [hy];clear hy;simp only;by_cases he : e = 0
    ·subst he;have H := Lib.hid (ybj H8.out HN.out HR.out HY.out);rw [zak];have hw : IntKind.i64.wrap (s[2].toNat : Int) = (s[2].toNat : Int) := IntWalk.i64_in _ (by have := (s[2]).toNat_lt; omega);go_wp2;go_ret2;exact ⟨by rw [H.out, HQ.out]; rfl, hb1⟩
    ·have H := Lib.hid (zsg H8.out HN.out HR.out HY.out he);have HV := Lib.hid (zau he);rw [zau he];clear he;go_wp2;go_ret2;exact ⟨by rw [H.out]; simp only [HV.out]; rfl, hb1⟩
  ·have H := Lib.hid (zsc h8 hn);obtain ⟨n1, n2⟩ := ymh hn;clear h8 hn;go_enter Tryz.func22, Tryz.ntmps22;go_wp2;go_ret2;exact ⟨by rw [H.out]; rfl, Below.refl _ _⟩
set_option maxRecDepth 100000 in
theorem zui (s : ByteArray) (w : World) (h2 : 2 ≤ s.size) (b : Bool) (hb : ((s.extract 0 2).toList == [80, 84]) = b) :
  Calls Tryz.prog 68 #[.string s, .string ⟨#[80, 84]⟩] w fun e w' => e = .returned (.bool b) ∧ w = w' := by
 have d1 : decide (2 ≤ s.size) = true := by simpa using h2
 have d2 : decide ((2 : Int) ≤ (s.size : Int)) = true := decide_eq_true (by omega);go_enter Tryz.func68, Tryz.ntmps68;go_wp2_with fail;go_enter Tryz.func116, Tryz.ntmps116;cases b with
 | true =>
  go_wp2;go_ret;exact ⟨rfl, rfl⟩
 | false =>
  go_wp2;go_ret;exact ⟨rfl, rfl⟩
set_option maxHeartbeats 2000000 in
set_option maxRecDepth 100000 in
theorem zeb (s : ByteArray) (w : World) (hs : s.size ≤ 1000000) :
  Calls Tryz.prog 21 #[.string s] w fun e w' => e = .returned (.tuple #[.int .i64 (fver s).1, .int .i64 (fver s).2]) ∧ Below w.heap.size w w' := by
 by_cases h8 : s.size < 8
 ·have H := Lib.hid (zpf h8);have d : decide (s.size < 8) = true := by simpa using h8
  have d' : decide ((s.size : Int) < 8) = true := decide_eq_true (by omega);clear h8;go_enter Tryz.func21, Tryz.ntmps21;go_wp2;go_ret2;exact ⟨by rw [H.out]; rfl, Below.refl _ _⟩
 ·have d : decide (s.size < 8) = false := by simpa using h8
  have d' : decide ((s.size : Int) < 8) = false := decide_eq_false (by omega);have i2 : 2 ≤ s.size := by omega
  have i3 : 2 < s.size := by omega
  by_cases hn : s.extract 0 2 = ⟨#[80, 84]⟩
  ·have HN := Lib.hid hn;have PT := Lib.hid (zui s w i2 true (ync hn).2);have hq := zdv s 2 i3;have H8 := Lib.hid h8;have HIB := Lib.hid (@ygj (byteOf s 2));have hw : IntKind.i64.wrap (s[2].toNat : Int) = (s[2].toNat : Int) := IntWalk.i64_in _ (by have := (s[2]).toNat_lt; omega);rw [hq] at HIB;clear h8 hn;go_enter Tryz.func21, Tryz.ntmps21;go_wp2_with fail;refine PT.out.mono ?_;rintro r w1 ⟨rfl, rfl⟩;go_wp2_with fail;refine (zfd _ _ _ _).mono ?_;rintro r w1 ⟨rfl, rfl⟩;rw [HIB.out];by_cases hr : byteOf s 2 < 1 ∨ 3 < byteOf s 2
   ·have H := Lib.hid (zsq H8.out HN.out hr);rw [decide_eq_false (by rw [← hq]; exact fun h => h hr)];clear hr hq;go_wp2;go_ret2;exact ⟨by rw [H.out]; rfl, Below.refl _ _⟩
   ·have HR := Lib.hid hr;rw [decide_eq_true (by rw [← hq]; exact hr)];have HQ := Lib.hid hq;clear hr hq;go_wp2_with fail;refine (zkh s _ hs).mono ?_;rintro r w1 ⟨rfl, hb1⟩;obtain ⟨⟨t, e⟩, hy⟩ : ∃ y, zet s = y := ⟨_, rfl⟩;have HY := Lib.hid hy;rw [hy];clear hy;simp only;by_cases he : e = 0
    ·subst he;have H := Lib.hid (ybj H8.out HN.out HR.out HY.out);go_wp2;go_ret2;exact ⟨by rw [H.out, HQ.out]; rfl, hb1⟩
    ·have H := Lib.hid (zsg H8.out HN.out HR.out HY.out he);have d5 : (e != 0) = true := by rw [bne_iff_ne]; exact he
     clear he;go_wp2;go_ret2;exact ⟨by rw [H.out]; rfl, hb1⟩
  ·have H := Lib.hid (zsc h8 hn);have PT := Lib.hid (zui s w i2 false (ymh hn).2);clear h8 hn;go_enter Tryz.func21, Tryz.ntmps21;go_wp2_with fail;refine PT.out.mono ?_;rintro r w1 ⟨rfl, rfl⟩;go_wp2;go_ret2;exact ⟨by rw [H.out]; rfl, Below.refl _ _⟩
def znu (s : ByteArray) : ByteArray × Int := if (fver s).2 ≠ 0 then (⟨#[]⟩, (fver s).2) else (s.extract 3 (s.size - 4), 0)
set_option maxHeartbeats 2000000 in
set_option maxRecDepth 100000 in
theorem zvb (s : ByteArray) (w : World) (hs : s.size ≤ 1000000) :
  Calls Tryz.prog 23 #[.string s] w fun e w' => e = .returned (.tuple #[.string (znu s).1, errV (znu s).2]) ∧ Below w.heap.size w w' := by
 have hF := Lib.hid (show znu s = if (fver s).2 ≠ 0 then (⟨#[]⟩, (fver s).2) else (s.extract 3 (s.size - 4), 0) from rfl);go_enter Tryz.func23, Tryz.ntmps23;go_wp2_with fail;refine (zfq s _ hs).mono ?_;rintro r w1 ⟨rfl, hb1⟩;obtain ⟨⟨v, e⟩, hy⟩ : ∃ y, fver s = y := ⟨_, rfl⟩;have HY := Lib.hid hy;rw [hy] at hF ⊢;clear hy;simp only at hF ⊢;by_cases he : e = 0
 ·subst he;have h8 := (zgd HY.out).1;have H := Lib.hid (hF.out.trans (if_neg (by simp)));have w4 : IntKind.i64.wrap ((s.size : Int) - 4) = ((s.size - 4 : Nat) : Int) := by rw [show ((s.size : Int) - 4) = ((s.size - 4 : Nat) : Int) by omega]; exact IntWalk.i64_in _ (by omega)
  have w5 : wrap64 ((s.size : Int) - 4) = ((s.size - 4 : Nat) : Int) := by rw [show ((s.size : Int) - 4) = ((s.size - 4 : Nat) : Int) by omega]; exact IntWalk.wrap64_in _ (by omega)
  have j1 : (3 : Int) ≤ ((s.size - 4 : Nat) : Int) := by omega
  have j2 : s.size - 4 ≤ s.size := by omega
  have j3 : ((s.size - 4 : Nat) : Int) ≤ (s.size : Int) := by omega
  have j4 : 3 ≤ s.size - 4 := by omega
  rw [zak];clear hF h8;go_wp2;go_ret2;exact ⟨by rw [H.out]; rfl, hb1⟩
 ·have H := Lib.hid (hF.out.trans (if_pos he));have HV := Lib.hid (zau he);rw [zau he];clear he hF;go_wp2;go_ret2;exact ⟨by rw [H.out]; simp only [HV.out]; rfl, hb1⟩
end Go.Proofs.YtkejlnjnoiidnaaGreatDoor
end
