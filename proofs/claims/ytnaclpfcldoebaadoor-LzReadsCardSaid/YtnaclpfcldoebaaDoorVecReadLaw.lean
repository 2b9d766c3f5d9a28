/- The vector that bytes begin with, in plain Lean. No program in sight. -/
import Derived.Test.YtnaclpfcldoebaaDoorVecJoinLaw
import Derived.Test.YtnaclpfcldoebaaDoorSpanLaw
namespace Go.Proofs.YtnaclpfcldoebaaDoor
/-- The number at byte p. -/
def vat (s : ByteArray) (p : Nat) (most : Int) : Nat × Nat × Int := vint (s.extract p s.size).data.toList most
abbrev VR := List Ent × Nat × Int × Int
/-- So many entries more: they, how far, what is wrong, the replica next. -/
def vtimes (s : ByteArray) : Nat → Int → Nat → List Ent → VR
  | 0, r, p, acc => (acc, p, 0, r)
  | c + 1, r, p, acc => if (vat s p 1099511627776).2.2 ≠ 0 then ([], 0, (vat s p 1099511627776).2.2, 0) else vtimes s c (r + 1) (p + (vat s p 1099511627776).2.1) (acc ++ [(r, ((vat s p 1099511627776).1 : Int))])
/-- So many runs more. -/
def vruns (s : ByteArray) : Nat → Bool → Int → Nat → List Ent → VR
  | 0, _, r, p, acc => (acc, p, 0, r)
  | c + 1, first, r, p, acc =>
    if (vat s p 200).2.2 ≠ 0 then ([], 0, (vat s p 200).2.2, 0)
    else if (vat s (p + (vat s p 200).2.1) 16).2.2 ≠ 0 then ([], 0, (vat s (p + (vat s p 200).2.1) 16).2.2, 0)
    else
      let x := vtimes s ((vat s (p + (vat s p 200).2.1) 16).1 + 1) (r + ((vat s p 200).1 : Int) + (if first then 0 else 1)) (p + (vat s p 200).2.1 + (vat s (p + (vat s p 200).2.1) 16).2.1) acc
      if x.2.2.1 ≠ 0 then ([], 0, x.2.2.1, 0) else vruns s c false x.2.2.2 x.2.1 x.1
def vrall (s : ByteArray) : VR := if (vat s 0 16).2.2 ≠ 0 then ([], 0, (vat s 0 16).2.2, 0) else vruns s (vat s 0 16).1 true 0 (vat s 0 16).2.1 []
/-- The vector, how many bytes it has, what is wrong. -/
def vread (s : ByteArray) : List Ent × Nat × Int := if (vrall s).2.2.1 ≠ 0 then ([], 0, (vrall s).2.2.1) else if (vright (vrall s).1).1 ≠ 0 then ([], 0, (vright (vrall s).1).1) else ((vrall s).1, (vrall s).2.1, 0)
theorem vtimes_bad {s : ByteArray} {c : Nat} {r : Int} {p : Nat} {acc : List Ent} {X : VR} (h : X = vtimes s (c + 1) r p acc) (he : (vat s p 1099511627776).2.2 ≠ 0) : X = ([], 0, (vat s p 1099511627776).2.2, 0) := by
  rw [h]; simp only [vtimes]; rw [if_pos he]
theorem vtimes_next {s : ByteArray} {c : Nat} {r : Int} {p : Nat} {acc : List Ent} {X : VR} (h : X = vtimes s (c + 1) r p acc) (he : (vat s p 1099511627776).2.2 = 0) : X = vtimes s c (r + 1) (p + (vat s p 1099511627776).2.1) (acc ++ [(r, ((vat s p 1099511627776).1 : Int))]) := by
  rw [h]; simp only [vtimes]; rw [if_neg (by omega)]
theorem vruns_gap {s : ByteArray} {c : Nat} {f : Bool} {r : Int} {p : Nat} {acc : List Ent} {X : VR} (h : X = vruns s (c + 1) f r p acc) (he : (vat s p 200).2.2 ≠ 0) : X = ([], 0, (vat s p 200).2.2, 0) := by
  rw [h]; simp only [vruns]; rw [if_pos he]
theorem vruns_len {s : ByteArray} {c : Nat} {f : Bool} {r : Int} {p : Nat} {acc : List Ent} {X : VR} (h : X = vruns s (c + 1) f r p acc) (h0 : (vat s p 200).2.2 = 0) (he : (vat s (p + (vat s p 200).2.1) 16).2.2 ≠ 0) : X = ([], 0, (vat s (p + (vat s p 200).2.1) 16).2.2, 0) := by
  rw [h]; simp only [vruns]; rw [if_neg (by omega), if_pos he]
theorem vruns_bad {s : ByteArray} {c : Nat} {f : Bool} {r : Int} {p : Nat} {acc : List Ent} {X x : VR} (h : X = vruns s (c + 1) f r p acc) (h0 : (vat s p 200).2.2 = 0) (h1 : (vat s (p + (vat s p 200).2.1) 16).2.2 = 0)
    (hx : x = vtimes s ((vat s (p + (vat s p 200).2.1) 16).1 + 1) (r + ((vat s p 200).1 : Int) + (if f then 0 else 1)) (p + (vat s p 200).2.1 + (vat s (p + (vat s p 200).2.1) 16).2.1) acc) (he : x.2.2.1 ≠ 0) : X = ([], 0, x.2.2.1, 0) := by
  rw [h]; simp only [vruns]; rw [if_neg (by omega), if_neg (by omega), ← hx, if_pos he]
theorem vruns_next {s : ByteArray} {c : Nat} {f : Bool} {r : Int} {p : Nat} {acc : List Ent} {X x : VR} (h : X = vruns s (c + 1) f r p acc) (h0 : (vat s p 200).2.2 = 0) (h1 : (vat s (p + (vat s p 200).2.1) 16).2.2 = 0)
    (hx : x = vtimes s ((vat s (p + (vat s p 200).2.1) 16).1 + 1) (r + ((vat s p 200).1 : Int) + (if f then 0 else 1)) (p + (vat s p 200).2.1 + (vat s (p + (vat s p 200).2.1) 16).2.1) acc) (he : x.2.2.1 = 0) : X = vruns s c false x.2.2.2 x.2.1 x.1 := by
  rw [h]; simp only [vruns]; rw [if_neg (by omega), if_neg (by omega), ← hx, if_neg (by omega)]
/-- What a number at a byte can be. -/
theorem vat_says (s : ByteArray) (p : Nat) (most : Int) : ((vat s p most).2.2 = 0 ∧ ((vat s p most).1 : Int) ≤ most ∧ 0 < (vat s p most).2.1 ∧ (vat s p most).2.1 ≤ 10 ∧ p + (vat s p most).2.1 ≤ s.size) ∨ ∃ e : Int, vat s p most = (0, 0, e) ∧ (e = 2 ∨ e = 3 ∨ e = 4 ∨ e = 7) := by
  unfold vat
  rcases vint_says (s.extract p s.size).data.toList most with ⟨h0, h1, _, h2, h3, h4⟩ | h
  · refine .inl ⟨h0, h1, h2, h3, ?_⟩
    have e : (s.extract p s.size).data.toList.length = s.size - p := by
      simp
    omega
  · exact .inr h
/-- The same, told by what the numbers are. -/
theorem vruns_gap' {s : ByteArray} {c g k : Nat} {e : Int} {f : Bool} {r : Int} {p : Nat} {acc : List Ent} {X : VR} (h : X = vruns s (c + 1) f r p acc) (ha : vat s p 200 = (g, k, e)) (he : e ≠ 0) : X = ([], 0, e, 0) := by
  have := vruns_gap h (by rw [ha]; exact he)
  rwa [ha] at this
theorem vruns_len' {s : ByteArray} {c g k m j : Nat} {e : Int} {f : Bool} {r : Int} {p : Nat} {acc : List Ent} {X : VR} (h : X = vruns s (c + 1) f r p acc) (ha : vat s p 200 = (g, k, 0)) (hb : vat s (p + k) 16 = (m, j, e)) (he : e ≠ 0) : X = ([], 0, e, 0) := by
  have hb' : vat s (p + (vat s p 200).2.1) 16 = (m, j, e) := by rw [ha]; exact hb
  have := vruns_len h (by rw [ha]) (by rw [hb']; exact he)
  rwa [hb'] at this
theorem vruns_go {s : ByteArray} {c g k m j : Nat} {f : Bool} {r : Int} {p : Nat} {acc : List Ent} {X : VR} (h : X = vruns s (c + 1) f r p acc) (ha : vat s p 200 = (g, k, 0)) (hb : vat s (p + k) 16 = (m, j, 0)) :
    ∃ x, x = vtimes s (m + 1) (r + (g : Int) + (if f then 0 else 1)) (p + k + j) acc ∧ (x.2.2.1 ≠ 0 → X = ([], 0, x.2.2.1, 0)) ∧ (x.2.2.1 = 0 → X = vruns s c false x.2.2.2 x.2.1 x.1) := by
  have hb' : vat s (p + (vat s p 200).2.1) 16 = (m, j, 0) := by rw [ha]; exact hb
  have hx : vtimes s (m + 1) (r + (g : Int) + (if f then 0 else 1)) (p + k + j) acc = vtimes s ((vat s (p + (vat s p 200).2.1) 16).1 + 1) (r + ((vat s p 200).1 : Int) + (if f then 0 else 1)) (p + (vat s p 200).2.1 + (vat s (p + (vat s p 200).2.1) 16).2.1) acc := by
    rw [hb', ha]
  exact ⟨_, rfl, fun he => vruns_bad h (by rw [ha]) (by rw [hb']) hx he, fun he => vruns_next h (by rw [ha]) (by rw [hb']) hx he⟩
theorem vtimes_bad' {s : ByteArray} {c t k : Nat} {e r : Int} {p : Nat} {acc : List Ent} {X : VR} (h : X = vtimes s (c + 1) r p acc) (ha : vat s p 1099511627776 = (t, k, e)) (he : e ≠ 0) : X = ([], 0, e, 0) := by
  have := vtimes_bad h (by rw [ha]; exact he)
  rwa [ha] at this
theorem vtimes_next' {s : ByteArray} {c t k : Nat} {r : Int} {p : Nat} {acc : List Ent} {X : VR} (h : X = vtimes s (c + 1) r p acc) (ha : vat s p 1099511627776 = (t, k, 0)) : X = vtimes s c (r + 1) (p + k) (acc ++ [(r, (t : Int))]) := by
  have := vtimes_next h (by rw [ha])
  rwa [ha] at this
theorem vread_bad {s : ByteArray} {X : VR} {e : Int} (hX : vrall s = X) (h : X = ([], 0, e, 0)) (he : e ≠ 0) : vread s = ([], 0, e) := by
  unfold vread; rw [hX, h, if_pos he]
theorem vread_false {s : ByteArray} {X : VR} {l : List Ent} {p : Nat} {r : Int} (hX : vrall s = X) (h : X = (l, p, 0, r)) (he : (vright l).1 ≠ 0) : vread s = ([], 0, (vright l).1) := by
  unfold vread; rw [hX, h, if_neg (by simp), if_pos he]
theorem vread_good {s : ByteArray} {X : VR} {l : List Ent} {p : Nat} {r : Int} (hX : vrall s = X) (h : X = (l, p, 0, r)) (he : (vright l).1 = 0) : vread s = (l, p, 0) := by
  unfold vread; rw [hX, h, if_neg (by simp), if_neg (by simpa using he)]
theorem vrall_bad {s : ByteArray} {c k : Nat} {e : Int} (ha : vat s 0 16 = (c, k, e)) (he : e ≠ 0) : vrall s = ([], 0, e, 0) := by
  unfold vrall; rw [ha, if_pos he]
theorem vrall_go {s : ByteArray} {c k : Nat} (ha : vat s 0 16 = (c, k, 0)) : vrall s = vruns s c true 0 k [] := by
  unfold vrall; rw [ha, if_neg (by simp)]
theorem vat_of (s : ByteArray) (p : Nat) (most : Int) : ∃ (n k : Nat) (e : Int), vat s p most = (n, k, e) ∧ (e = 0 ∧ (n : Int) ≤ most ∧ 0 < k ∧ k ≤ 10 ∧ p + k ≤ s.size ∨ e ≠ 0 ∧ n = 0 ∧ k = 0) := by
  rcases vat_says s p most with ⟨h0, h1, h2, h3, h4⟩ | ⟨e, h, he⟩
  · exact ⟨_, _, _, rfl, .inl ⟨h0, h1, h2, h3, h4⟩⟩
  · exact ⟨0, 0, e, h, .inr ⟨by omega, rfl, rfl⟩⟩
theorem vread_none {s : ByteArray} (h : (vread s).2.2 ≠ 0) : (vread s).1 = [] ∧ (vread s).2.1 = 0 := by
  unfold vread at h ⊢
  split
  · exact ⟨rfl, rfl⟩
  · rename_i h1
    rw [if_neg h1] at h
    split
    · exact ⟨rfl, rfl⟩
    · rename_i h2
      rw [if_neg h2] at h
      exact absurd rfl h
end Go.Proofs.YtnaclpfcldoebaaDoor
