/- Lists of entries (a replica, a time) in memory; how far a replica is known: vector.Of and VectorOf of the reference.

What is wrong with a vector, in plain Lean. No program in sight.

errors.As by its contracts, at the target *api.Errno: a nil error, an api.Errno, an *api.At (after the kit's example Toyas).

errors.As at the target *api.Errno: an api.Errno, and an *api.At.

api.Tell, plain.Place and the laws' own two questions, by contracts on what an error is.

What an error is, told once for all: none, an api.Errno, an *api.At; and what api.Tell, plain.Place and the laws' own questions make of it.

vector.Right and VectorRight of the reference say what vright says.

Lists of tokens in memory. -/
import Derived.Test.YtkejlnjnoiidnaaGreatDoorProg
import Derived.Test.YtkejlnjnoiidnaaGreatDoorZ1
import Derived.WalkKit
import Derived.WalkLawsBesides
import Derived.WalkSpells
import Derived.Outline
import Derived.Lib.Hide
import Derived.LaidEql
import Derived.Stop.Asserts
import Derived.RowKitTokens
import Derived.RegionTactic
import Derived.Deep.QuietTactic
import Derived.BigQuiet
import Derived.Deep.Cut
import Derived.Deep.DeepCutAuto
import Derived.Deep.CutBlock
section
namespace Go.Proofs.YtkejlnjnoiidnaaGreatDoor
open Go.RowKit

theorem entCells_len (x : Ent) : (entCells x).length = 2 := rfl
/-- Fits its kind. -/
def entFits (x : Ent) : Prop := (-9223372036854775808 ≤ x.1 ∧ x.1 ≤ 9223372036854775807) ∧ (-9223372036854775808 ≤ x.2 ∧ x.2 ≤ 9223372036854775807)
/-- The slice value of n entries reads as l. -/
def Ents (w : World) (B : Nat) (A : Option Addr) (n : Nat) (l : List Ent) : Prop := Sl w B 2 A n (l.flatMap entCells) ∧ ∀ x ∈ l, entFits x
theorem Ents.len {w : World} {B n : Nat} {A : Option Addr} {l : List Ent} (h : Ents w B A n l) : l.length = n := by
  have := h.1.1; rw [flat_len _ 2 entCells_len] at this; omega
theorem Ents.at_ {w : World} {B n : Nat} {A : Option Addr} {l : List Ent} (h : Ents w B A n l) {k : Nat} (hk : k < n) :
    ∃ b o r t, A = some ⟨b, o, none⟩ ∧ b < B ∧ l[k]? = some (r, t) ∧ entFits (r, t) ∧ w.cell? ⟨b, o + k * 2, none⟩ = some (.int .i64 r) ∧ w.cell? ⟨b, o + k * 2 + 1, none⟩ = some (.int .i64 t) := by
  obtain ⟨b, o, e, hb, hc⟩ := h.1.2 (by omega)
  have hl := h.len
  have hx : l[k]? = some l[k] := List.getElem?_eq_getElem (by omega)
  refine ⟨b, o, l[k].1, l[k].2, e, hb, hx, h.2 _ (List.getElem_mem _), ?_, ?_⟩
  · have := flat_get entCells 2 entCells_len l k 0 _ hx (by omega)
    exact hc (k * 2 + 0) _ this
  · have := flat_get entCells 2 entCells_len l k 1 _ hx (by omega)
    exact hc (k * 2 + 1) _ this
theorem Ents.below {w w' : World} {B n : Nat} {A : Option Addr} {l : List Ent} (h : Ents w B A n l) (hb : Below B w w') : Ents w' B A n l := ⟨h.1.below hb, h.2⟩

theorem Ents.below' {w w' : World} {B n : Nat} {A : Option Addr} {l : List Ent} (h : Ents w B A n l) (hb : Below w.heap.size w w') (hB : B ≤ w.heap.size) : Ents w' B A n l := h.below (hb.mono hB)
theorem Ents.more {w : World} {B B' n : Nat} {A : Option Addr} {l : List Ent} (h : Ents w B A n l) (hB : B ≤ B') : Ents w B' A n l := ⟨h.1.more hB, h.2⟩
theorem Ents.grow {w w' : World} {n : Nat} {A : Option Addr} {l : List Ent} (h : Ents w w.heap.size A n l) (hb : Below w.heap.size w w') : Ents w' w'.heap.size A n l := (h.below hb).more hb.size
theorem Ents.inv {w W : World} {n : Nat} {A : Option Addr} {l : List Ent} (h : Ents w w.heap.size A n l) (hb : Below w.heap.size w W) (x : Inv W) : Ents x.w x.w.heap.size A n l := (h.grow hb).grow x.below
/-- How far a replica is known. -/
def vof : List Ent → Int → Int
  | [], _ => 0
  | (r, t) :: l, x => if r = x then t else vof l x
theorem vof_fits (l : List Ent) (x : Int) (h : ∀ y ∈ l, entFits y) : -9223372036854775808 ≤ vof l x ∧ vof l x ≤ 9223372036854775807 := by
  induction l with
  | nil => simp [vof]
  | cons y l ih =>
    obtain ⟨r, t⟩ := y
    simp only [vof]
    split
    · exact (h (r, t) (by simp)).2
    · exact ih fun y hy => h y (by simp [hy])
theorem vof_hit (l : List Ent) (x : Int) (k : Nat) (t : Int) (h : ∀ (j : Nat) (y : Ent), j < k → l[j]? = some y → y.1 ≠ x) (hk : l[k]? = some (x, t)) : vof l x = t := by
  induction l generalizing k with
  | nil => simp at hk
  | cons y l ih =>
    obtain ⟨r, t'⟩ := y
    cases k with
    | zero => simp at hk; obtain ⟨rfl, rfl⟩ := hk; simp [vof]
    | succ k =>
      have h0 := h 0 (r, t') (by omega) (by simp)
      simp only [vof]
      rw [if_neg h0]
      exact ih k (fun j y hj hy => h (j + 1) y (by omega) (by simpa using hy)) (by simpa using hk)
theorem vof_miss (l : List Ent) (x : Int) (h : ∀ (j : Nat) (y : Ent), l[j]? = some y → y.1 ≠ x) : vof l x = 0 := by
  induction l with
  | nil => rfl
  | cons y l ih =>
    obtain ⟨r, t'⟩ := y
    have h0 := h 0 (r, t') (by simp)
    simp only [vof]
    rw [if_neg h0]
    exact ih fun j y hy => h (j + 1) y (by simpa using hy)

theorem ent_succ {l : List Ent} {x : Int} {k : Nat} {r t : Int} (h : ∀ (j : Nat) (y : Ent), j < k → l[j]? = some y → y.1 ≠ x) (hk : l[k]? = some (r, t)) (hr : ¬ r = x) : ∀ (j : Nat) (y : Ent), j < k + 1 → l[j]? = some y → y.1 ≠ x := by
  intro j y hj hy
  by_cases e : j = k
  · subst e; rw [hk] at hy; injection hy with hy; subst hy; exact hr
  · exact h j y (by omega) hy
theorem ent_lt {α : Type} {l : List α} {n j : Nat} {y : α} (hl : l.length = n) (hy : l[j]? = some y) : j < n := by
  rcases Nat.lt_or_ge j n with h | h
  · exact h
  · rw [List.getElem?_eq_none (by omega)] at hy; cases hy
theorem of_any (w : World) (n c : Nat) (A : Option Addr) (l : List Ent) (x : Int) (hl : Ents w w.heap.size A n l) (hn : n ≤ maxLen) :
    Calls Tryz.prog 122 #[.slice A n c, .int .i64 x] w fun e w' => e = .returned (.int .i64 (vof l x)) ∧ Below w.heap.size w w' := by
  unfold maxLen at hn
  have hlen := Lib.hid hl.len
  go_enter Tryz.func122, Tryz.ntmps122
  go_wp2
  go_loopw [6, 9] (fun _ i wr => (∃ k : Nat, k ≤ n ∧ i = .int .i64 k ∧ ∀ (j : Nat) (y : Ent), j < k → l[j]? = some y → y.1 ≠ x) ∧ Below w.heap.size w wr) (fun _ i _ => n - (intOf i).toNat)
  case atStart => exact ⟨⟨0, by omega, rfl, fun j y hj => by omega⟩, Below.refl _ _⟩
  case round =>
    obtain ⟨⟨k, hk, rfl, hall⟩, hbel⟩ := hrel
    have Hall := Lib.hid hall
    clear hall
    by_cases hlt : k < n
    · obtain ⟨b, o, r, t, rfl, hb, hx, hf, hc0, hc1⟩ := hl.at_ hlt
      have c0 := (hbel.cell (p := ⟨b, o + k * 2, none⟩) (by simp; omega)).trans hc0
      have c1 := (hbel.cell (p := ⟨b, o + k * 2 + 1, none⟩) (by simp; omega)).trans hc1
      clear hc0 hc1
      have hsz := hbel.size
      by_cases hr : r = x
      · subst hr
        have hv := Lib.hid (vof_hit l r k t Hall.out hx)
        go_wp2_with fail
        go_ret
        exact ⟨retI hv.out.symm, (hbel.alloc (by omega) _)⟩
      · have hr' : (r == x) = false := by simp [hr]
        have hx' := Lib.hid hx
        clear hx
        go_wp2_with fail
        go_roundw
        case rel => exact ⟨⟨k + 1, by omega, by go_num, fun j y hj hy => ent_succ Hall.out hx'.out hr j y hj hy⟩, hbel.alloc (by omega) _⟩
        case measure => simp [intOf]; omega
    · obtain rfl : k = n := by omega
      go_wp2_with fail
      go_ret
      exact ⟨retI (vof_miss l x fun j y hy => Hall.out j y (ent_lt hlen.out hy) hy).symm, hbel⟩
/-- An argument that is a slice of entries. -/
structure EntArg where
  A : Option Addr
  n : Nat
  c : Nat
  l : List Ent
end Go.Proofs.YtkejlnjnoiidnaaGreatDoor
end

section
namespace Go.Proofs.YtkejlnjnoiidnaaGreatDoor
/-- An entry beyond what there is. -/
def entBad (x : Ent) : Prop := x.1 < 0 ∨ 200 < x.1 ∨ x.2 < 1 ∨ 1099511627776 < x.2
instance (x : Ent) : Decidable (entBad x) := by unfold entBad; infer_instance
/-- What is wrong from entry i on, the replica ahead being last. -/
def vrgo : List Ent → Int → Nat → Int × Int
  | [], _, _ => (0, -1)
  | x :: l, last, i => if entBad x then (2, i) else if x.1 ≤ last then (10, i) else vrgo l x.1 (i + 1)
def vright (l : List Ent) : Int × Int := if 16 < l.length then (4, -1) else vrgo l (-1) 0
/-- The replica ahead of entry k. -/
def lastAt (l : List Ent) (k : Nat) : Int := if k = 0 then -1 else (l.getD (k - 1) (-1, 0)).1
theorem lastAt_zero (l : List Ent) : lastAt l 0 = -1 := rfl
theorem lastAt_succ (l : List Ent) (k : Nat) (r t : Int) (h : l[k]? = some (r, t)) : lastAt l (k + 1) = r := by
  unfold lastAt
  rw [if_neg (by omega)]
  simp [List.getD, h]
/-- As it stands ahead of entry k. -/
def VAt (l : List Ent) (k : Nat) : Prop := vrgo l (-1) 0 = vrgo (l.drop k) (lastAt l k) k
theorem VAt.zero (l : List Ent) : VAt l 0 := rfl
theorem drop_at {α : Type} {l : List α} {k : Nat} {x : α} (h : l[k]? = some x) : l.drop k = x :: l.drop (k + 1) := by
  obtain ⟨hk, e⟩ := List.getElem?_eq_some_iff.1 h
  rw [List.drop_eq_getElem_cons hk, e]
theorem VAt.bad {l : List Ent} {k : Nat} {x : Ent} (h : VAt l k) (hx : l[k]? = some x) (hb : entBad x) : vrgo l (-1) 0 = (2, (k : Int)) := by
  unfold VAt at h
  rw [h, drop_at hx]
  simp only [vrgo]
  rw [if_pos hb]
theorem VAt.order {l : List Ent} {k : Nat} {x : Ent} (h : VAt l k) (hx : l[k]? = some x) (hb : ¬ entBad x) (ho : x.1 ≤ lastAt l k) : vrgo l (-1) 0 = (10, (k : Int)) := by
  unfold VAt at h
  rw [h, drop_at hx]
  simp only [vrgo]
  rw [if_neg hb, if_pos ho]
theorem VAt.succ {l : List Ent} {k : Nat} {r t : Int} (h : VAt l k) (hx : l[k]? = some (r, t)) (hb : ¬ entBad (r, t)) (ho : ¬ r ≤ lastAt l k) : VAt l (k + 1) := by
  unfold VAt at *
  rw [h, drop_at hx]
  simp only [vrgo]
  rw [if_neg hb, if_neg ho, lastAt_succ l k r t hx]
theorem VAt.all {l : List Ent} {k : Nat} (h : VAt l k) (hk : l.length ≤ k) : vrgo l (-1) 0 = (0, -1) := by
  unfold VAt at h
  rw [h, List.drop_eq_nil_of_le hk]
  rfl
theorem vright_big {l : List Ent} (h : 16 < l.length) : vright l = (4, -1) := by unfold vright; rw [if_pos h]
theorem vright_small {l : List Ent} (h : ¬ 16 < l.length) : vright l = vrgo l (-1) 0 := by unfold vright; rw [if_neg h]
theorem vright_ok_len {l : List Ent} (h : (vright l).1 = 0) : l.length ≤ 16 := by
  rcases Nat.lt_or_ge 16 l.length with h' | h'
  · rw [vright_big h'] at h; simp at h
  · exact h'
theorem vrgo_place (l : List Ent) : ∀ (last : Int) (i : Nat), (vrgo l last i).1 = 0 → (vrgo l last i).2 = -1 := by
  induction l with
  | nil => intro _ _ _; rfl
  | cons x l ih =>
    intro last i
    simp only [vrgo]
    split
    · intro h; simp at h
    · split
      · intro h; simp at h
      · exact ih _ _
theorem vright_place {l : List Ent} (h : (vright l).1 = 0) : (vright l).2 = -1 := by
  unfold vright at *
  split
  · rfl
  · rename_i h'; rw [if_neg h'] at h; exact vrgo_place l _ _ h
/-- A right vector: each entry fits, and the replicas rise. -/
theorem vrgo_ok (l : List Ent) : ∀ (last : Int) (i : Nat), (vrgo l last i).1 = 0 → (∀ x ∈ l, ¬ entBad x) ∧ (∀ x ∈ l, last < x.1) ∧ l.Pairwise (fun x y => x.1 < y.1) := by
  induction l with
  | nil => intro _ _ _; simp
  | cons x l ih =>
    intro last i
    simp only [vrgo]
    split
    · intro h; simp at h
    · rename_i hb
      split
      · intro h; simp at h
      · rename_i ho
        intro h
        obtain ⟨h1, h2, h3⟩ := ih _ _ h
        refine ⟨?_, ?_, ?_⟩
        · intro y hy
          rcases List.mem_cons.1 hy with rfl | hy
          · exact hb
          · exact h1 y hy
        · intro y hy
          rcases List.mem_cons.1 hy with rfl | hy
          · omega
          · have := h2 y hy; omega
        · exact List.pairwise_cons.2 ⟨h2, h3⟩
theorem vright_ok {l : List Ent} (h : (vright l).1 = 0) : (∀ x ∈ l, ¬ entBad x) ∧ l.Pairwise (fun x y => x.1 < y.1) := by
  rw [vright_small (by have := vright_ok_len h; omega)] at h
  obtain ⟨h1, _, h3⟩ := vrgo_ok l _ _ h
  exact ⟨h1, h3⟩
end Go.Proofs.YtkejlnjnoiidnaaGreatDoor
end

section
namespace Go.Proofs.YtkejlnjnoiidnaaGreatDoor.As
open Go.RowKit Go.Extern.Stop Go.Stop Go.Extern
theorem as_nil (t : Value) (w : World) :
    Calls Tryz.prog 110 #[.nilIface, t] w fun e w' => e = .returned (.bool false) ∧ w' = w := by
  go_enter Tryz.func110, Tryz.ntmps110
  go_wp2
  go_ret
  exact ⟨rfl, rfl⟩
theorem valueOfP (t : Addr) (w : World) : (ReflectliteValue.unpack (.iface 157 (.pointer (some t)))).run Tryz.prog w
    = .ok (.agg #[.pointer (some ⟨5, 157, none⟩), .pointer (some ⟨w.heap.size, 0, none⟩), .int .u64 150]) (w.alloc (.cells #[.pointer (some t)] 157)) := by kernel_rfl
theorem typeP (a : Addr) (w : World) : (ReflectliteValue.methodAny (ReflectliteValue.valueError "reflectlite.Value.Type" 0) (fun t _ _ _ => ReflectliteType.toType t) #[.agg #[.pointer (some ⟨5, 157, none⟩), .pointer (some a), .int .u64 150]]).run Tryz.prog w
    = .ok (.iface 206 (.agg #[.pointer (some ⟨5, 157, none⟩)])) w := by kernel_rfl
theorem methodKind (h : Value) (w : World) : (Go.method 361 206 (.agg #[h]) "Kind").run Tryz.prog w = .ok (189, h) w := by kernel_rfl
theorem kindP (w : World) : ((ReflectliteType.abiMethod fun t => (fun a : Nat => Value.int IntKind.u8 (a : Int)) <$> Rtype.kind t) #[.pointer (some ⟨5, 157, none⟩)]).run Tryz.prog w = .ok (.int .u8 22) w := by kernel_rfl
theorem kindE (w : World) : ((ReflectliteType.abiMethod fun t => (fun a : Nat => Value.int IntKind.u8 (a : Int)) <$> Rtype.kind t) #[.pointer (some ⟨5, 27, none⟩)]).run Tryz.prog w = .ok (.int .u8 2) w := by kernel_rfl
theorem rlm (z : Sem Value) (f : TypeId → Addr → Nat → Nat → Sem Value) (v : Value) :
    ReflectliteValue.method z f #[v] = (do match ← ReflectliteValue.parts v with | none => z | some (t, a, fl) => f t a fl (fl % 32)) := rfl
theorem partsP (a : Addr) (w : World) : (ReflectliteValue.parts (.agg #[.pointer (some ⟨5, 157, none⟩), .pointer (some a), .int .u64 150])).run Tryz.prog w = .ok (some (157, a, 150)) w := by kernel_rfl
theorem isNilP (a p : Addr) (W : World) (ha : W.cell? a = some (.pointer (some p))) :
    (ReflectliteValue.method (ReflectliteValue.valueError "reflectlite.Value.IsNil" 0) ReflectliteValue.isNil #[.agg #[.pointer (some ⟨5, 157, none⟩), .pointer (some a), .int .u64 150]]).run Tryz.prog W = .ok (.bool false) W := by
  rw [rlm]
  simp only [Sem.run_bind, partsP, Result.andThen]
  simp [ReflectliteValue.isNil, loadVar, isAgg, underlying, Tryz.underlying157, ha, Result.andThen]
theorem methodElem (h : Value) (w : World) : (Go.method 361 206 (.agg #[h]) "Elem").run Tryz.prog w = .ok (202, .agg #[h]) w := by kernel_rfl
theorem methodImplements (h : Value) (w : World) : (Go.method 361 206 (.agg #[h]) "Implements").run Tryz.prog w = .ok (203, .agg #[h]) w := by kernel_rfl
theorem methodAssignableTo (h : Value) (w : World) : (Go.method 361 206 (.agg #[h]) "AssignableTo").run Tryz.prog w = .ok (200, .agg #[h]) w := by kernel_rfl
theorem elemP (w : World) : (ReflectliteType.method ReflectliteType.elem #[.agg #[.pointer (some ⟨5, 157, none⟩)]]).run Tryz.prog w = .ok (.iface 206 (.agg #[.pointer (some ⟨5, 27, none⟩)])) w := by kernel_rfl
theorem implementsE (w : World) : (ReflectliteType.relation "Implements" ReflectliteType.implements_ #[.agg #[.pointer (some ⟨5, 27, none⟩)], .iface 206 (.agg #[.pointer (some ⟨5, 33, none⟩)])]).run Tryz.prog w = .ok (.bool true) w := by kernel_rfl
theorem typeOfE (v : Value) (w : World) : (ReflectliteType.typeOf #[.iface 27 v]).run Tryz.prog w = .ok (.iface 206 (.agg #[.pointer (some ⟨5, 27, none⟩)])) w := by kernel_rfl
theorem typeOfA (v : Value) (w : World) : (ReflectliteType.typeOf #[.iface 112 v]).run Tryz.prog w = .ok (.iface 206 (.agg #[.pointer (some ⟨5, 112, none⟩)])) w := by kernel_rfl
theorem assignableE (w : World) : (ReflectliteType.relation "AssignableTo" ReflectliteType.assignableTo #[.agg #[.pointer (some ⟨5, 27, none⟩)], .iface 206 (.agg #[.pointer (some ⟨5, 27, none⟩)])]).run Tryz.prog w = .ok (.bool true) w := by kernel_rfl
theorem assignableA (w : World) : (ReflectliteType.relation "AssignableTo" ReflectliteType.assignableTo #[.agg #[.pointer (some ⟨5, 112, none⟩)], .iface 206 (.agg #[.pointer (some ⟨5, 27, none⟩)])]).run Tryz.prog w = .ok (.bool false) w := by kernel_rfl
theorem valueOfE (e : Int) (w : World) : (ReflectliteValue.unpack (.iface 27 (.int .i64 e))).run Tryz.prog w
    = .ok (.agg #[.pointer (some ⟨5, 27, none⟩), .pointer (some ⟨w.heap.size, 0, none⟩), .int .u64 130]) (w.alloc (.cells #[.int .i64 e] 27)) := by kernel_rfl
theorem elemOfP (w : World) : (Rtype.elem? 157).run Tryz.prog w = .ok (some 27) w := by kernel_rfl
theorem mkE (p : Addr) (w : World) : (ReflectliteValue.mk 27 p ReflectliteValue.flagAddr).run Tryz.prog w = .ok (.agg #[.pointer (some ⟨5, 27, none⟩), .pointer (some p), .int .u64 386]) w := by kernel_rfl
theorem elemV (a p : Addr) (W : World) (ha : W.cell? a = some (.pointer (some p))) :
    (ReflectliteValue.method (ReflectliteValue.valueError "reflectlite.Value.Elem" 0) ReflectliteValue.elem #[.agg #[.pointer (some ⟨5, 157, none⟩), .pointer (some a), .int .u64 150]]).run Tryz.prog W
      = .ok (.agg #[.pointer (some ⟨5, 27, none⟩), .pointer (some p), .int .u64 386]) W := by
  rw [rlm]
  simp only [Sem.run_bind, partsP, Result.andThen]
  simp [ReflectliteValue.elem, loadVar, isAgg, underlying, Tryz.underlying157, ha, Result.andThen, elemOfP, mkE]
theorem rls (v x : Value) : ReflectliteValue.set #[v, x] = (do
    let (some (dst, a, fl), some (src, b, _)) := (← ReflectliteValue.parts v, ← ReflectliteValue.parts x)
      | unsupported (.noEntry "extern/(internal/reflectlite.Value).Set.zeroValue")
    if fl / ReflectliteValue.flagAddr % 2 == 0 then unsupported (.noEntry "extern/(internal/reflectlite.Value).Set.unaddressable")
    let val ← loadVar src b
    if ← Rtype.directlyAssignable dst src then storeVar dst a val
    else if ← Rtype.implements dst src then
      if (← Rtype.kind src) == 20 then
        match val with
        | .nilIface => unsupported (.noEntry "extern/reflectlite: a nil value of one interface type handed on as a value of another")
        | _ => storeVar dst a val
      else storeVar dst a (.iface src val)
    else panicString ("reflectlite.Set: value of type " ++ (← Rtype.spelt src) ++ " is not assignable to type " ++ (← Rtype.spelt dst))
    pure (.tuple #[])) := rfl
theorem partsEa (a : Addr) (w : World) : (ReflectliteValue.parts (.agg #[.pointer (some ⟨5, 27, none⟩), .pointer (some a), .int .u64 386])).run Tryz.prog w = .ok (some (27, a, 386)) w := by kernel_rfl
theorem partsE (a : Addr) (w : World) : (ReflectliteValue.parts (.agg #[.pointer (some ⟨5, 27, none⟩), .pointer (some a), .int .u64 130])).run Tryz.prog w = .ok (some (27, a, 130)) w := by kernel_rfl
theorem directE (w : World) : (Rtype.directlyAssignable 27 27).run Tryz.prog w = .ok true w := by kernel_rfl
theorem setE (ta b : Addr) (e : Int) (old : Value) (W : World) (hb : W.cell? b = some (.int .i64 e)) (ht : W.cell? ta = some old) (hf : W.frozen? ta = false) :
    (ReflectliteValue.set #[.agg #[.pointer (some ⟨5, 27, none⟩), .pointer (some ta), .int .u64 386], .agg #[.pointer (some ⟨5, 27, none⟩), .pointer (some b), .int .u64 130]]).run Tryz.prog W
      = .ok (.tuple #[]) (W.setCell ta (.int .i64 e)) := by
  rw [rls]
  simp only [Sem.run_bind, partsEa, partsE, Result.andThen]
  simp [ReflectliteValue.flagAddr, loadVar, isAgg, underlying, Tryz.underlying27, hb, Result.andThen, directE, storeVar, Value.cells, storeCells, Addr.add]
  rw [run_store Tryz.prog W ta _ _ (by rfl)]
  simp [ht, hf]
theorem noAs (v : Value) (xT : TypeId) (w : World) : (Instr.typeAssert (.iface 112 v) xT 211 true).run Tryz.prog w = .ok (.tuple #[.nilIface, .bool false]) w := run_typeAssert_lacksB Tryz.underlying211 (by kernel_rfl) (by kernel_rfl) v xT w
theorem hasUnwrap (v : Value) (xT : TypeId) (w : World) : (Instr.typeAssert (.iface 112 v) xT 126 true).run Tryz.prog w = .ok (.tuple #[.iface 112 v, .bool true]) w := run_typeAssert_hasB Tryz.underlying126 (by kernel_rfl) v xT w
theorem noUnwrapE (v : Value) (xT : TypeId) (w : World) : (Instr.typeAssert (.iface 27 v) xT 126 true).run Tryz.prog w = .ok (.tuple #[.nilIface, .bool false]) w := run_typeAssert_lacksB Tryz.underlying126 (by kernel_rfl) (by kernel_rfl) v xT w
theorem methodUnwrap (h : Value) (w : World) : (Go.method 361 112 h "Unwrap").run Tryz.prog w = .ok (194, h) w := by kernel_rfl
/-- The variable of package errors that holds the type of 'error'. -/
def Handle (w : World) : Prop := w.cell? ⟨0, 0, none⟩ = some (.iface 206 (.agg #[.pointer (some ⟨5, 33, none⟩)]))
theorem Handle.below {w w' : World} (h : Handle w) (hb : Below w.heap.size w w') : Handle w' := (hb.cell (cell_lt h)).trans h
end Go.Proofs.YtkejlnjnoiidnaaGreatDoor.As
end

section
namespace Go.Proofs.YtkejlnjnoiidnaaGreatDoor.As
open Go.RowKit Go.Extern.Stop Go.Stop Go.Extern
set_option maxHeartbeats 4000000 in
theorem as_errno (e : Int) (t : Addr) (old : Value) (w : World) (hg : Handle w) (ht0 : w.cell? t = some old) (hf0 : w.frozen? t = false) :
    Calls Tryz.prog 110 #[.iface 27 (.int .i64 e), .iface 157 (.pointer (some t))] w fun ev w' => ev = .returned (.bool true) ∧ ∃ w1, w' = w1.setCell t (.int .i64 e) ∧ Below w.heap.size w w1 := by
  have x0 := @run_callFunc_extern Tryz.prog 136 _ (fun args => ReflectliteValue.unpack (args.getD 0 (.tuple #[]))) Tryz.func136 (by kernel_rfl) (by kernel_rfl) (by kernel_rfl) (by kernel_rfl)
  have x1 := @run_callFunc_extern Tryz.prog 137 _ (ReflectliteValue.methodAny (ReflectliteValue.valueError "reflectlite.Value.Type" 0) (fun t _ _ _ => ReflectliteType.toType t)) Tryz.func137 (by kernel_rfl) (by kernel_rfl) (by kernel_rfl) (by kernel_rfl)
  have x2 := @run_callFunc_extern Tryz.prog 138 _ (ReflectliteValue.method (ReflectliteValue.valueError "reflectlite.Value.IsNil" 0) ReflectliteValue.isNil) Tryz.func138 (by kernel_rfl) (by kernel_rfl) (by kernel_rfl) (by kernel_rfl)
  have x3 := @run_callFunc_extern Tryz.prog 189 _ (ReflectliteType.abiMethod fun t => do pure (.int .u8 (← Rtype.kind t))) Tryz.func189 (by kernel_rfl) (by kernel_rfl) (by kernel_rfl) (by kernel_rfl)
  have x4 := @run_callFunc_extern Tryz.prog 202 _ (ReflectliteType.method ReflectliteType.elem) Tryz.func202 (by kernel_rfl) (by kernel_rfl) (by kernel_rfl) (by kernel_rfl)
  have x5 := @run_callFunc_extern Tryz.prog 203 _ (ReflectliteType.relation "Implements" ReflectliteType.implements_) Tryz.func203 (by kernel_rfl) (by kernel_rfl) (by kernel_rfl) (by kernel_rfl)
  have x6 := @run_callFunc_extern Tryz.prog 150 _ (ReflectliteType.typeOf) Tryz.func150 (by kernel_rfl) (by kernel_rfl) (by kernel_rfl) (by kernel_rfl)
  have x7 := @run_callFunc_extern Tryz.prog 200 _ (ReflectliteType.relation "AssignableTo" ReflectliteType.assignableTo) Tryz.func200 (by kernel_rfl) (by kernel_rfl) (by kernel_rfl) (by kernel_rfl)
  have x8 := @run_callFunc_extern Tryz.prog 151 _ (ReflectliteValue.method (ReflectliteValue.valueError "reflectlite.Value.Elem" 0) ReflectliteValue.elem) Tryz.func151 (by kernel_rfl) (by kernel_rfl) (by kernel_rfl) (by kernel_rfl)
  have x9 := @run_callFunc_extern Tryz.prog 152 _ (ReflectliteValue.set) Tryz.func152 (by kernel_rfl) (by kernel_rfl) (by kernel_rfl) (by kernel_rfl)
  have c0 := valueOfP
  have c1 := typeP
  have c2 := methodKind
  have c3 := kindP
  have c4 := kindE
  have c5 := methodElem
  have c6 := methodImplements
  have c7 := methodAssignableTo
  have c8 := elemP
  have c9 := implementsE
  have c10 := typeOfE
  have c11 := assignableE
  have c12 := valueOfE
  have hlt := cell_lt hg
  have htl := cell_lt ht0
  simp only at hlt
  have n8 := isNilP ⟨w.heap.size, 0, none⟩ t ((w.alloc (.cells #[.pointer (some t)] 157)).alloc (.cells #[.pointer (some ⟨5, 157, none⟩), .pointer (some ⟨w.heap.size, 0, none⟩), .int .u64 150] 186)) (by simp)
  have hg2 : ((w.alloc (.cells #[.pointer (some t)] 157)).alloc (.cells #[.pointer (some ⟨5, 157, none⟩), .pointer (some ⟨w.heap.size, 0, none⟩), .int .u64 150] 186)).cell? ⟨0, 0, none⟩ = some (.iface 206 (.agg #[.pointer (some ⟨5, 33, none⟩)])) := by
    rw [World.cell?_alloc_lt _ _ ⟨0, 0, none⟩ (by simp), World.cell?_alloc_lt _ _ ⟨0, 0, none⟩ hlt]; exact hg
  have el := elemV ⟨w.heap.size, 0, none⟩ t (((w.alloc (.cells #[.pointer (some t)] 157)).alloc (.cells #[.pointer (some ⟨5, 157, none⟩), .pointer (some ⟨w.heap.size, 0, none⟩), .int .u64 150] 186)).alloc (.cells #[.pointer (some ⟨5, 157, none⟩), .pointer (some ⟨w.heap.size, 0, none⟩), .int .u64 150] 186)) (by rw [World.cell?_alloc_lt _ _ ⟨w.heap.size, 0, none⟩ (by simp <;> omega)]; simp)
  have st := setE t ⟨w.heap.size + 1 + 1 + 1, 0, none⟩ e old ((((w.alloc (.cells #[.pointer (some t)] 157)).alloc (.cells #[.pointer (some ⟨5, 157, none⟩), .pointer (some ⟨w.heap.size, 0, none⟩), .int .u64 150] 186)).alloc (.cells #[.pointer (some ⟨5, 157, none⟩), .pointer (some ⟨w.heap.size, 0, none⟩), .int .u64 150] 186)).alloc (.cells #[.int .i64 e] 27))
    (by rw [World.cell?_alloc_at _ _ _ _ (by simp)]; rfl)
    (by rw [World.cell?_alloc_lt _ _ t (by simp; omega), World.cell?_alloc_lt _ _ t (by simp; omega), World.cell?_alloc_lt _ _ t (by simp; omega), World.cell?_alloc_lt _ _ t htl]; exact ht0)
    (by rw [World.frozen?_alloc_old _ _ t (by simp; omega), World.frozen?_alloc_old _ _ t (by simp; omega), World.frozen?_alloc_old _ _ t (by simp; omega), World.frozen?_alloc_old _ _ t (Nat.ne_of_lt htl)]; exact hf0)
  unfold Handle at hg
  go_enter Tryz.func110, Tryz.ntmps110
  go_wp2
  refine wp_loop_rounds 1 ?_
  rw [rounds_succ]
  go_wp2
  go_ret
  exact ⟨rfl, _, rfl, ((((Below.refl _ _).alloc (Nat.le_refl _) _).alloc (by simp) _).alloc (by simp; omega) _).alloc (by simp; omega) _⟩
set_option maxHeartbeats 4000000 in
theorem as_at (e : Int) (a : Addr) (t : Addr) (old : Value) (w : World) (hg : Handle w) (ha : w.cell? a = some (.int .i64 e)) (ht0 : w.cell? t = some old) (hf0 : w.frozen? t = false) :
    Calls Tryz.prog 110 #[.iface 112 (.pointer (some a)), .iface 157 (.pointer (some t))] w fun ev w' => ev = .returned (.bool true) ∧ ∃ w1, w' = w1.setCell t (.int .i64 e) ∧ Below w.heap.size w w1 := by
  have x0 := @run_callFunc_extern Tryz.prog 136 _ (fun args => ReflectliteValue.unpack (args.getD 0 (.tuple #[]))) Tryz.func136 (by kernel_rfl) (by kernel_rfl) (by kernel_rfl) (by kernel_rfl)
  have x1 := @run_callFunc_extern Tryz.prog 137 _ (ReflectliteValue.methodAny (ReflectliteValue.valueError "reflectlite.Value.Type" 0) (fun t _ _ _ => ReflectliteType.toType t)) Tryz.func137 (by kernel_rfl) (by kernel_rfl) (by kernel_rfl) (by kernel_rfl)
  have x2 := @run_callFunc_extern Tryz.prog 138 _ (ReflectliteValue.method (ReflectliteValue.valueError "reflectlite.Value.IsNil" 0) ReflectliteValue.isNil) Tryz.func138 (by kernel_rfl) (by kernel_rfl) (by kernel_rfl) (by kernel_rfl)
  have x3 := @run_callFunc_extern Tryz.prog 189 _ (ReflectliteType.abiMethod fun t => do pure (.int .u8 (← Rtype.kind t))) Tryz.func189 (by kernel_rfl) (by kernel_rfl) (by kernel_rfl) (by kernel_rfl)
  have x4 := @run_callFunc_extern Tryz.prog 202 _ (ReflectliteType.method ReflectliteType.elem) Tryz.func202 (by kernel_rfl) (by kernel_rfl) (by kernel_rfl) (by kernel_rfl)
  have x5 := @run_callFunc_extern Tryz.prog 203 _ (ReflectliteType.relation "Implements" ReflectliteType.implements_) Tryz.func203 (by kernel_rfl) (by kernel_rfl) (by kernel_rfl) (by kernel_rfl)
  have x6 := @run_callFunc_extern Tryz.prog 150 _ (ReflectliteType.typeOf) Tryz.func150 (by kernel_rfl) (by kernel_rfl) (by kernel_rfl) (by kernel_rfl)
  have x7 := @run_callFunc_extern Tryz.prog 200 _ (ReflectliteType.relation "AssignableTo" ReflectliteType.assignableTo) Tryz.func200 (by kernel_rfl) (by kernel_rfl) (by kernel_rfl) (by kernel_rfl)
  have x8 := @run_callFunc_extern Tryz.prog 151 _ (ReflectliteValue.method (ReflectliteValue.valueError "reflectlite.Value.Elem" 0) ReflectliteValue.elem) Tryz.func151 (by kernel_rfl) (by kernel_rfl) (by kernel_rfl) (by kernel_rfl)
  have x9 := @run_callFunc_extern Tryz.prog 152 _ (ReflectliteValue.set) Tryz.func152 (by kernel_rfl) (by kernel_rfl) (by kernel_rfl) (by kernel_rfl)
  have c0 := valueOfP
  have c1 := typeP
  have c2 := methodKind
  have c3 := kindP
  have c4 := kindE
  have c5 := methodElem
  have c6 := methodImplements
  have c7 := methodAssignableTo
  have c8 := elemP
  have c9 := implementsE
  have c10 := typeOfE
  have c11 := assignableE
  have c12 := valueOfE
  have c13 := typeOfA
  have c14 := assignableA
  have c15 := noAs
  have c16 := hasUnwrap
  have c17 := methodUnwrap
  have hlt := cell_lt hg
  have htl := cell_lt ht0
  simp only at hlt
  have n8 := isNilP ⟨w.heap.size, 0, none⟩ t ((w.alloc (.cells #[.pointer (some t)] 157)).alloc (.cells #[.pointer (some ⟨5, 157, none⟩), .pointer (some ⟨w.heap.size, 0, none⟩), .int .u64 150] 186)) (by simp)
  have hg2 : ((w.alloc (.cells #[.pointer (some t)] 157)).alloc (.cells #[.pointer (some ⟨5, 157, none⟩), .pointer (some ⟨w.heap.size, 0, none⟩), .int .u64 150] 186)).cell? ⟨0, 0, none⟩ = some (.iface 206 (.agg #[.pointer (some ⟨5, 33, none⟩)])) := by
    rw [World.cell?_alloc_lt _ _ ⟨0, 0, none⟩ (by simp), World.cell?_alloc_lt _ _ ⟨0, 0, none⟩ hlt]; exact hg
  have el := elemV ⟨w.heap.size, 0, none⟩ t (((w.alloc (.cells #[.pointer (some t)] 157)).alloc (.cells #[.pointer (some ⟨5, 157, none⟩), .pointer (some ⟨w.heap.size, 0, none⟩), .int .u64 150] 186)).alloc (.cells #[.pointer (some ⟨5, 157, none⟩), .pointer (some ⟨w.heap.size, 0, none⟩), .int .u64 150] 186)) (by rw [World.cell?_alloc_lt _ _ ⟨w.heap.size, 0, none⟩ (by simp <;> omega)]; simp)
  have st := setE t ⟨w.heap.size + 1 + 1 + 1, 0, none⟩ e old ((((w.alloc (.cells #[.pointer (some t)] 157)).alloc (.cells #[.pointer (some ⟨5, 157, none⟩), .pointer (some ⟨w.heap.size, 0, none⟩), .int .u64 150] 186)).alloc (.cells #[.pointer (some ⟨5, 157, none⟩), .pointer (some ⟨w.heap.size, 0, none⟩), .int .u64 150] 186)).alloc (.cells #[.int .i64 e] 27))
    (by rw [World.cell?_alloc_at _ _ _ _ (by simp)]; rfl)
    (by rw [World.cell?_alloc_lt _ _ t (by simp; omega), World.cell?_alloc_lt _ _ t (by simp; omega), World.cell?_alloc_lt _ _ t (by simp; omega), World.cell?_alloc_lt _ _ t htl]; exact ht0)
    (by rw [World.frozen?_alloc_old _ _ t (by simp; omega), World.frozen?_alloc_old _ _ t (by simp; omega), World.frozen?_alloc_old _ _ t (by simp; omega), World.frozen?_alloc_old _ _ t (Nat.ne_of_lt htl)]; exact hf0)
  unfold Handle at hg
  have hal := cell_lt ha
  have ha2 : (((w.alloc (.cells #[.pointer (some t)] 157)).alloc (.cells #[.pointer (some ⟨5, 157, none⟩), .pointer (some ⟨w.heap.size, 0, none⟩), .int .u64 150] 186)).alloc (.cells #[.pointer (some ⟨5, 157, none⟩), .pointer (some ⟨w.heap.size, 0, none⟩), .int .u64 150] 186)).cell? a = some (.int .i64 e) := by rw [World.cell?_alloc_lt _ _ a (by simp; omega), World.cell?_alloc_lt _ _ a (by simp; omega), World.cell?_alloc_lt _ _ a hal]; exact ha
  go_enter Tryz.func110, Tryz.ntmps110
  go_wp2
  refine wp_loop_rounds 2 ?_
  rw [rounds_succ]
  go_wp2
  rw [rounds_succ]
  go_wp2
  go_ret
  exact ⟨rfl, _, rfl, ((((Below.refl _ _).alloc (Nat.le_refl _) _).alloc (by simp) _).alloc (by simp; omega) _).alloc (by simp; omega) _⟩

end Go.Proofs.YtkejlnjnoiidnaaGreatDoor.As
end

section
namespace Go.Proofs.YtkejlnjnoiidnaaGreatDoor.As
open Go.RowKit Go.Extern.Stop Go.Stop Go.Extern
theorem below1 (w : World) (o : Obj) : Below w.heap.size w (w.alloc o) := (Below.refl _ _).alloc (Nat.le_refl _) o
/-- Tell's three answers. -/
theorem tell_nil (w : World) : Calls Tryz.prog 61 #[.nilIface] w fun e w' => e = .returned (.int .i64 0) ∧ w = w' := by
  go_enter Tryz.func61, Tryz.ntmps61
  go_wp2
  go_ret
  exact ⟨rfl, rfl⟩
theorem tell_errno (e : Int) (w : World) (hg : Handle w) : Calls Tryz.prog 61 #[.iface 27 (.int .i64 e)] w fun r w' => r = .returned (.int .i64 e) ∧ Below w.heap.size w w' := by
  go_enter Tryz.func61, Tryz.ntmps61
  go_wp2_with fail
  refine (as_errno e _ _ _ (hg.below ((Below.refl _ _).alloc (Nat.le_refl _) _)) (World.cell?_alloc_at _ _ _ _ rfl) (by simp)).mono ?_
  rintro r w' ⟨rfl, w1, rfl, hb⟩
  have hz := hb.size
  have hc : w1.cell? ⟨w.heap.size, 0, none⟩ = some (.int .i64 0) := (hb.cell (p := ⟨w.heap.size, 0, none⟩) (by simp)).trans (by rw [World.cell?_alloc_at _ _ _ _ rfl]; rfl)
  have hc2 : (w1.setCell ⟨w.heap.size, 0, none⟩ (.int .i64 e)).cell? ⟨w.heap.size, 0, none⟩ = some (.int .i64 e) := World.cell?_setCell_same _ _ _ hc
  simp at hz
  go_wp2_with fail
  go_ret
  exact ⟨rfl, ((below1 _ _).trans (hb.mono (by simp))).setCell (by simp) _⟩
theorem tell_at (e : Int) (a : Addr) (w : World) (hg : Handle w) (ha : w.cell? a = some (.int .i64 e)) : Calls Tryz.prog 61 #[.iface 112 (.pointer (some a))] w fun r w' => r = .returned (.int .i64 e) ∧ Below w.heap.size w w' := by
  go_enter Tryz.func61, Tryz.ntmps61
  go_wp2_with fail
  refine (as_at e a _ _ _ (hg.below ((Below.refl _ _).alloc (Nat.le_refl _) _)) (by rw [World.cell?_alloc_lt _ _ a (cell_lt ha)]; exact ha) (World.cell?_alloc_at _ _ _ _ rfl) (by simp)).mono ?_
  rintro r w' ⟨rfl, w1, rfl, hb⟩
  have hz := hb.size
  have hc : w1.cell? ⟨w.heap.size, 0, none⟩ = some (.int .i64 0) := (hb.cell (p := ⟨w.heap.size, 0, none⟩) (by simp)).trans (by rw [World.cell?_alloc_at _ _ _ _ rfl]; rfl)
  have hc2 : (w1.setCell ⟨w.heap.size, 0, none⟩ (.int .i64 e)).cell? ⟨w.heap.size, 0, none⟩ = some (.int .i64 e) := World.cell?_setCell_same _ _ _ hc
  simp at hz
  go_wp2_with fail
  go_ret
  exact ⟨rfl, ((below1 _ _).trans (hb.mono (by simp))).setCell (by simp) _⟩
end Go.Proofs.YtkejlnjnoiidnaaGreatDoor.As
end

section
namespace Go.Proofs.YtkejlnjnoiidnaaGreatDoor
open Go.RowKit Go.Extern.Stop Go.Stop Go.Extern As
/-- v is the error e with the place p: 0, -1: none. -/
inductive ErrIs (w : World) : Value → Int → Int → Prop
  | none : ErrIs w .nilIface 0 (-1)
  | bare (e : Int) (he : e ≠ 0) : ErrIs w (.iface 27 (.int .i64 e)) e (-1)
  | at_ (b o : Nat) (e p : Int) (he : e ≠ 0) (h0 : w.cell? ⟨b, o, none⟩ = some (.int .i64 e)) (h1 : w.cell? ⟨b, o + 1, none⟩ = some (.int .i64 p)) : ErrIs w (.iface 112 (.pointer (some ⟨b, o, none⟩))) e p
theorem ErrIs.below {w w' : World} {v : Value} {e p : Int} (h : ErrIs w v e p) (hb : Below w.heap.size w w') : ErrIs w' v e p := by
  cases h with
  | none => exact .none
  | bare _ he => exact .bare _ he
  | at_ b o _ _ he h0 h1 => exact .at_ b o _ _ he ((hb.cell (cell_lt h0)).trans h0) ((hb.cell (cell_lt h1)).trans h1)
theorem ErrIs.drewN {w : World} {v : Value} {e p : Int} (h : ErrIs w v e p) (n : Nat) : ErrIs (w.drewN n) v e p := h.below (below_drewN (Below.refl _ _) n)
theorem ErrIs.zero {w : World} {v : Value} {p : Int} (h : ErrIs w v 0 p) : v = .nilIface ∧ p = -1 := by
  generalize he : (0 : Int) = e at h
  cases h with
  | none => exact ⟨rfl, rfl⟩
  | bare _ h => exact absurd he.symm h
  | at_ _ _ _ _ h => exact absurd he.symm h
/-- An error without a place, as a value. -/
def errV (e : Int) : Value := if e = 0 then .nilIface else .iface 27 (.int .i64 e)
theorem errV_zero : errV 0 = .nilIface := rfl
theorem errV_of {e : Int} (h : e ≠ 0) : errV e = .iface 27 (.int .i64 e) := by unfold errV; rw [if_neg h]
theorem errV_is (w : World) (e : Int) : ErrIs w (errV e) e (-1) := by
  by_cases h : e = 0
  · subst h; exact .none
  · rw [errV_of h]; exact .bare e h
theorem tell_any {v : Value} {e p : Int} {w : World} (h : ErrIs w v e p) (hg : Handle w) : Calls Tryz.prog 61 #[v] w fun r w' => r = .returned (.int .i64 e) ∧ Below w.heap.size w w' := by
  cases h with
  | none => exact (tell_nil w).mono fun _ _ ⟨a, b⟩ => ⟨a, b ▸ Below.refl _ _⟩
  | bare _ he => exact tell_errno _ w hg
  | at_ b o _ _ he h0 h1 => exact tell_at _ _ w hg h0
theorem isAtE (v : Value) (w : World) : (Instr.typeAssert (.iface 27 v) 33 112 true).run Tryz.prog w = .ok (.tuple #[.pointer none, .bool false]) w := by kernel_rfl
theorem isAtA (v : Value) (w : World) : (Instr.typeAssert (.iface 112 v) 33 112 true).run Tryz.prog w = .ok (.tuple #[v, .bool true]) w := by kernel_rfl
set_option maxHeartbeats 1000000 in
theorem place_any {v : Value} {e p : Int} {w : World} (h : ErrIs w v e p) (hg : Handle w) : Calls Tryz.prog 44 #[v] w fun r w' => r = .returned (.tuple #[.int .i64 e, .int .i64 p]) ∧ Below w.heap.size w w' := by
  cases h with
  | none =>
    go_enter Tryz.func44, Tryz.ntmps44
    go_wp2_with (go_at_call 61; refine (tell_nil w).mono ?_; rintro e w' ⟨rfl, rfl⟩)
    refine wp_loop_rounds 1 ?_
    rw [rounds_succ]
    go_wp2
    go_ret2
    exact ⟨rfl, Below.refl _ _⟩
  | bare _ he =>
    have n1 := noUnwrapE
    have n2 := isAtE
    go_enter Tryz.func44, Tryz.ntmps44
    go_wp2_with (go_at_call 61; refine (tell_errno e w hg).mono ?_; rintro e w' ⟨rfl, hb⟩)
    refine wp_loop_rounds 1 ?_
    rw [rounds_succ]
    go_wp2
    go_ret2
    exact ⟨rfl, hb⟩
  | at_ b o _ _ he h0 h1 =>
    have n2 := isAtA
    go_enter Tryz.func44, Tryz.ntmps44
    go_wp2_with (go_at_call 61; refine (tell_at e _ w hg h0).mono ?_; rintro e w' ⟨rfl, hb⟩)
    have h1' := (hb.cell (cell_lt h1)).trans h1
    refine wp_loop_rounds 1 ?_
    rw [rounds_succ]
    go_wp2
    go_quiet (fail)
    go_wp2
    go_ret2
    exact ⟨rfl, below_drewN hb _⟩
theorem bare_any {v : Value} {e p : Int} {w : World} (h : ErrIs w v e p) (hg : Handle w) (x : Int) : Calls Tryz.prog 24 #[v, .int .i64 x] w fun r w' => r = .returned (.bool (decide (e = x ∧ p = -1))) ∧ Below w.heap.size w w' := by
  go_enter Tryz.func24, Tryz.ntmps24
  go_wp2_with fail
  refine (place_any h hg).mono ?_
  rintro r w' ⟨rfl, hb⟩
  by_cases h1 : e = x <;> by_cases h2 : p = -1 <;> simp only [h1, h2]
  all_goals
    go_wp2_with fail
    go_ret
    exact ⟨by first | rfl | simp [*], hb⟩
theorem placed_any {v : Value} {e p : Int} {w : World} (h : ErrIs w v e p) (hg : Handle w) (x y : Int) : Calls Tryz.prog 13 #[v, .agg #[.int .i64 x, .int .i64 y]] w fun r w' => r = .returned (.bool (decide (e = x ∧ p = y))) ∧ Below w.heap.size w w' := by
  have hb1 := below1 w (.cells #[.int .i64 x, .int .i64 y] 29)
  have hh := h.below hb1
  have hgh := hg.below hb1
  go_enter Tryz.func13, Tryz.ntmps13
  go_wp2_with fail
  refine (place_any hh hgh).mono ?_
  rintro r w' ⟨rfl, hb⟩
  have c0 : w'.cell? ⟨w.heap.size, 0, none⟩ = some (.int .i64 x) := (hb.cell (p := ⟨w.heap.size, 0, none⟩) (by simp)).trans (by rw [World.cell?_alloc_at _ _ _ _ rfl]; rfl)
  have c1 : w'.cell? ⟨w.heap.size, 1, none⟩ = some (.int .i64 y) := (hb.cell (p := ⟨w.heap.size, 1, none⟩) (by simp)).trans (by rw [World.cell?_alloc_at _ _ _ _ rfl]; rfl)
  by_cases h1 : e = x
  · subst h1
    by_cases h2 : p = y
    · subst h2
      go_wp2_with fail
      go_ret
      exact ⟨by first | rfl | simp [*], hb1.trans (hb.mono (by simp))⟩
    · have h2' : (p == y) = false := by simp [h2]
      go_wp2_with fail
      go_ret
      exact ⟨by first | rfl | simp [*], hb1.trans (hb.mono (by simp))⟩
  · have h1' : (e == x) = false := by simp [h1]
    go_wp2_with fail
    go_ret
    exact ⟨by first | rfl | simp [*], hb1.trans (hb.mono (by simp))⟩
end Go.Proofs.YtkejlnjnoiidnaaGreatDoor
end

section
namespace Go.Proofs.YtkejlnjnoiidnaaGreatDoor
open Go.RowKit As
/-- An error that is what a pair says. -/
abbrev ErrOf (w : World) (v : Value) (f : Int × Int) : Prop := ErrIs w v f.1 f.2
theorem ErrOf.of {w : World} {v : Value} {e p : Int} {f : Int × Int} (h : ErrIs w v e p) (hf : f = (e, p)) : ErrOf w v f := by subst hf; exact h
theorem err_new (w : World) (e p : Int) (he : e ≠ 0) : ErrIs (w.alloc (.cells #[.int .i64 e, .int .i64 p] 114)) (.iface 112 (.pointer (some ⟨w.heap.size, 0, none⟩))) e p :=
  .at_ _ _ _ _ he (by rw [World.cell?_alloc_at _ _ _ _ rfl]; rfl) (by rw [World.cell?_alloc_at _ _ _ _ rfl]; rfl)
theorem err_at (w : World) (n : Nat) (e p : Int) (he : e ≠ 0) (hn : n = w.heap.size) : ErrIs (w.alloc (.cells #[.int .i64 e, .int .i64 p] 114)) (.iface 112 (.pointer (some ⟨n, 0, none⟩))) e p := by
  subst hn; exact err_new w e p he
theorem bad_parts {r t : Int} (h : entBad (r, t)) : (decide (r < 0) = true) ∨ (decide (r < 0) = false ∧ decide (200 < r) = true) ∨ (decide (r < 0) = false ∧ decide (200 < r) = false ∧ decide (t < 1) = true) ∨ (decide (r < 0) = false ∧ decide (200 < r) = false ∧ decide (t < 1) = false ∧ decide (1099511627776 < t) = true) := by
  unfold entBad at h
  simp only at h
  simp only [decide_eq_true_eq, decide_eq_false_iff_not]
  omega
set_option maxHeartbeats 1000000 in
theorem vright_any (w : World) (n c : Nat) (A : Option Addr) (l : List Ent) (hl : Ents w w.heap.size A n l) (hn : n ≤ maxLen) :
    Calls Tryz.prog 79 #[.slice A n c] w fun e w' => ∃ v, e = .returned v ∧ ErrOf w' v (vright l) ∧ Below w.heap.size w w' := by
  unfold maxLen at hn
  have hlen := hl.len
  by_cases hbig : 16 < n
  · have hv := Lib.hid (vright_big (l := l) (by omega))
    have hd : decide (16 < n) = true := by simpa using hbig
    have hlen := Lib.hid hlen
    clear hl
    go_enter Tryz.func79, Tryz.ntmps79
    go_wp2
    go_ret
    exact ⟨_, rfl, ErrOf.of (.bare 4 (by omega)) hv.out, Below.refl _ _⟩
  · have hv := Lib.hid (vright_small (l := l) (by omega))
    have hd : decide (16 < n) = false := by simpa using hbig
    have hlen := Lib.hid hlen
    go_enter Tryz.func79, Tryz.ntmps79
    go_wp2
    go_loopw [3, 4, 5, 12] (fun _ _ _ i wr => ∃ k : Nat, k ≤ n ∧ i = .int .i64 k ∧ VAt l k ∧ Below w.heap.size w wr) (fun _ _ _ i _ => n - (intOf i).toNat)
    case atStart => exact ⟨0, by omega, rfl, VAt.zero l, Below.refl _ _⟩
    case round =>
      obtain ⟨k, hk, rfl, hat, hbel⟩ := hrel
      have Hat := Lib.hid hat
      clear hat
      have hsz := hbel.size
      by_cases hlt : k < n
      · obtain ⟨b, o, r, t, rfl, hb, hx, hf, hc0, hc1⟩ := hl.at_ hlt
        have c0 := (hbel.cell (p := ⟨b, o + k * 2, none⟩) (by simp; omega)).trans hc0
        have c1 := (hbel.cell (p := ⟨b, o + k * 2 + 1, none⟩) (by simp; omega)).trans hc1
        clear hc0 hc1
        have hX := Lib.hid hx
        clear hx
        have hrt := Lib.hid hf
        clear hf
        by_cases hbad : entBad (r, t)
        · have hres := Lib.hid (Hat.out.bad hX.out hbad)
          have hparts := bad_parts hbad
          clear hbad
          rcases hparts with d0 | ⟨d0, d1⟩ | ⟨d0, d1, d2⟩ | ⟨d0, d1, d2, d3⟩
          all_goals
            go_wp2
            go_ret
            exact ⟨_, rfl, ErrOf.of (err_at _ _ 2 k (by omega) (by simp)) (hv.out.trans hres.out), (hbel.alloc hsz _).alloc (by simp; omega) _⟩
        · have hok : 0 ≤ r ∧ r ≤ 200 ∧ 1 ≤ t ∧ t ≤ 1099511627776 := by unfold entBad at hbad; simp only at hbad; omega
          obtain ⟨g0, g1, g2, g3⟩ := hok
          have d0 : decide (r < 0) = false := by simpa using g0
          have d1 : decide (200 < r) = false := by simpa using g1
          have d2 : decide (t < 1) = false := by simpa using g2
          have d3 : decide (1099511627776 < t) = false := by simpa using g3
          have Hbad := Lib.hid hbad
          clear hbad
          by_cases hk0 : k = 0
          · have hz : decide (0 < k) = false := by simp [hk0]
            have hl0 := Lib.hid hk0
            clear hk0
            have hnext := Lib.hid (Hat.out.succ hX.out Hbad.out (by rw [hl0.out, lastAt_zero]; omega))
            go_wp2
            go_quiet (fail)
            go_wp2
            go_roundw
            case rel => exact ⟨k + 1, by omega, by go_num, hnext.out, below_drewN (hbel.alloc hsz _) _⟩
            case measure => simp [intOf]; omega
          · have hz : decide (0 < k) = true := by simp; omega
            obtain ⟨b', o', r', t', e', hb', hx', hf', hc0', hc1'⟩ := hl.at_ (k := k - 1) (by omega)
            injection e' with e'
            injection e' with e1 e2
            subst e1 e2
            have c2 := (hbel.cell (p := ⟨b, o + (k - 1) * 2, none⟩) (by simp; omega)).trans hc0'
            have hlast := Lib.hid (lastAt_succ l (k - 1) r' t' hx')
            clear hc0' hc1' hx' hf'
            have ek : k - 1 + 1 = k := by omega
            have hk1 : k - 1 < n := by omega
            have hlast2 := Lib.hid ((congrArg (lastAt l) ek).symm.trans hlast.out)
            clear ek hlast
            by_cases ho : r ≤ r'
            · have hres := Lib.hid (Hat.out.order hX.out Hbad.out (by rw [hlast2.out]; exact ho))
              have d4 : decide (r ≤ r') = true := by simpa using ho
              go_wp2
              have hwr : IntKind.i64.wrap ((k : Int) - 1) = ((k - 1 : Nat) : Int) := by rw [IntWalk.i64_in _ (by omega)]; omega
              have c3 : (wr.alloc (.cells #[.int .i64 r, .int .i64 t] 79)).cell? ⟨b, o + (k - 1) * 2, none⟩ = some (.int .i64 r') := (World.cell?_alloc_lt _ _ ⟨b, o + (k - 1) * 2, none⟩ (by simp; omega)).trans c2
              go_quiet (fail)
              go_wp2
              go_ret
              exact ⟨_, rfl, ErrOf.of (err_at _ _ 10 k (by omega) (by simp)) (hv.out.trans hres.out), (below_drewN (hbel.alloc hsz _) _).alloc (by simp; omega) _⟩
            · have hnext := Lib.hid (Hat.out.succ hX.out Hbad.out (by rw [hlast2.out]; exact ho))
              have d4 : decide (r ≤ r') = false := by simpa using ho
              go_wp2
              have hwr : IntKind.i64.wrap ((k : Int) - 1) = ((k - 1 : Nat) : Int) := by rw [IntWalk.i64_in _ (by omega)]; omega
              have c3 : (wr.alloc (.cells #[.int .i64 r, .int .i64 t] 79)).cell? ⟨b, o + (k - 1) * 2, none⟩ = some (.int .i64 r') := (World.cell?_alloc_lt _ _ ⟨b, o + (k - 1) * 2, none⟩ (by simp; omega)).trans c2
              go_quiet (fail)
              clear hwr
              go_wp2
              go_roundw
              case rel => exact ⟨k + 1, by omega, by go_num, hnext.out, below_drewN (hbel.alloc hsz _) _⟩
              case measure => simp [intOf]; omega
      · obtain rfl : k = n := by omega
        have hend := Lib.hid (Hat.out.all (by rw [hlen.out]; exact Nat.le_refl _))
        clear hlt
        go_wp2
        go_ret
        exact ⟨_, rfl, ErrOf.of .none (hv.out.trans hend.out), hbel⟩
/-- within. -/
def inB (n lo hi : Int) : Bool := decide (lo ≤ n ∧ n ≤ hi)
theorem within_any (n lo hi : Int) (w : World) : Calls Tryz.prog 54 #[.int .i64 n, .int .i64 lo, .int .i64 hi] w fun e w' => e = .returned (.bool (inB n lo hi)) ∧ w = w' := by
  by_cases h1 : lo ≤ n
  · by_cases h2 : n ≤ hi
    · have hb : inB n lo hi = true := by unfold inB; simp [h1, h2]
      have Hb := Lib.hid hb
      clear hb
      go_enter Tryz.func54, Tryz.ntmps54
      go_wp2
      go_ret
      exact ⟨retB Hb.out.symm, rfl⟩
    · have hb : inB n lo hi = false := by unfold inB; simp [h1, h2]
      have Hb := Lib.hid hb
      clear hb
      go_enter Tryz.func54, Tryz.ntmps54
      go_wp2
      go_ret
      exact ⟨retB Hb.out.symm, rfl⟩
  · have hb : inB n lo hi = false := by unfold inB; simp [h1]
    have Hb := Lib.hid hb
    clear hb
    go_enter Tryz.func54, Tryz.ntmps54
    go_wp2
    go_ret
    exact ⟨retB Hb.out.symm, rfl⟩
theorem within_is {n lo hi : Int} {b : Bool} (h : Hid (inB n lo hi = b)) (w : World) : Calls Tryz.prog 54 #[.int .i64 n, .int .i64 lo, .int .i64 hi] w fun e w' => e = .returned (.bool b) ∧ w = w' :=
  (within_any n lo hi w).mono fun _ _ ⟨a, b⟩ => ⟨by rw [a]; exact retB h, b⟩
/-- A fault of the reference. -/
def faultV (f : Int × Int) : Value := .agg #[.int .i64 f.1, .int .i64 f.2]
theorem bareF_any (e : Int) (w : World) : Calls Tryz.prog 47 #[.int .i64 e] w fun r w' => r = .returned (.agg #[.int .i64 e, .int .i64 (-1)]) ∧ Below w.heap.size w w' := by
  go_enter Tryz.func47, Tryz.ntmps47
  go_wp2
  exact bodyPost_ret (v := .agg #[.int .i64 e, .int .i64 (-1)]) (by simp [results, Tryz.results47, go_sem]) rfl ⟨rfl, below1 _ _⟩
theorem good_any (w : World) : Calls Tryz.prog 35 #[] w fun r w' => r = .returned (.agg #[.int .i64 0, .int .i64 (-1)]) ∧ Below w.heap.size w w' := by
  go_enter Tryz.func35, Tryz.ntmps35
  go_wp2
  exact bodyPost_ret (v := .agg #[.int .i64 0, .int .i64 (-1)]) (by simp [results, Tryz.results35, go_sem]) rfl ⟨rfl, below1 _ _⟩
theorem set2 {w : World} {s : Nat} {old0 old1 : Value} (a b : Value) (h0 : w.cell? ⟨s, 0, none⟩ = some old0) (h1 : w.cell? ⟨s, 1, none⟩ = some old1) :
    ((w.setCell ⟨s, 0, none⟩ a).setCell ⟨s, 1, none⟩ b).cell? ⟨s, 0, none⟩ = some a ∧ ((w.setCell ⟨s, 0, none⟩ a).setCell ⟨s, 1, none⟩ b).cell? ⟨s, 1, none⟩ = some b := by
  have h1' : (w.setCell ⟨s, 0, none⟩ a).cell? ⟨s, 1, none⟩ = some old1 := by rw [World.cell?_setCell_other _ _ _ _ (by intro h; injection h with _ h2; cases h2)]; exact h1
  refine ⟨?_, World.cell?_setCell_same _ _ _ h1'⟩
  rw [World.cell?_setCell_other _ _ _ _ (by intro h; injection h with _ h2; cases h2)]
  exact World.cell?_setCell_same _ _ _ h0
theorem set2_alloc {w : World} {s : Nat} {old0 old1 : Value} (a b : Value) (o : Obj) (hs : s < w.heap.size) (h0 : w.cell? ⟨s, 0, none⟩ = some old0) (h1 : w.cell? ⟨s, 1, none⟩ = some old1) :
    (((w.setCell ⟨s, 0, none⟩ a).setCell ⟨s, 1, none⟩ b).alloc o).cell? ⟨s, 0, none⟩ = some a ∧ (((w.setCell ⟨s, 0, none⟩ a).setCell ⟨s, 1, none⟩ b).alloc o).cell? ⟨s, 1, none⟩ = some b :=
  ⟨(World.cell?_alloc_lt _ _ ⟨s, 0, none⟩ (by simpa using hs)).trans (set2 a b h0 h1).1, (World.cell?_alloc_lt _ _ ⟨s, 1, none⟩ (by simpa using hs)).trans (set2 a b h0 h1).2⟩
theorem below_set2 {B : Nat} {a w : World} {s : Nat} (x y : Value) (h : Below B a w) (hs : B ≤ s) : Below B a ((w.setCell ⟨s, 0, none⟩ x).setCell ⟨s, 1, none⟩ y) := (h.setCell hs _).setCell hs _
/-- A new block of two numbers, later on. -/
structure Two (w : World) (s : Nat) (a b : Int) : Prop where
  c0 : w.cell? ⟨s, 0, none⟩ = some (.int .i64 a)
  c1 : w.cell? ⟨s, 1, none⟩ = some (.int .i64 b)
  f0 : w.frozen? ⟨s, 0, none⟩ = false
  f1 : w.frozen? ⟨s, 1, none⟩ = false
theorem Two.new (w : World) (a b : Int) (t : TypeId) : Two (w.alloc (.cells #[.int .i64 a, .int .i64 b] t)) w.heap.size a b :=
  ⟨by rw [World.cell?_alloc_at _ _ _ _ rfl]; rfl, by rw [World.cell?_alloc_at _ _ _ _ rfl]; rfl, by simp, by simp⟩
theorem Two.lt {w : World} {s : Nat} {a b : Int} (h : Two w s a b) : s < w.heap.size := cell_lt h.c0
theorem Two.keep {w w' : World} {s B : Nat} {a b : Int} (h : Two w s a b) (hb : Below B w w') (hs : s < B) : Two w' s a b :=
  ⟨(hb.cell (p := ⟨s, 0, none⟩) hs).trans h.c0, (hb.cell (p := ⟨s, 1, none⟩) hs).trans h.c1, (hb.frozen (p := ⟨s, 0, none⟩) hs).trans h.f0, (hb.frozen (p := ⟨s, 1, none⟩) hs).trans h.f1⟩
theorem Two.below {w w' : World} {s : Nat} {a b : Int} (h : Two w s a b) (hb : Below w.heap.size w w') : Two w' s a b := h.keep hb h.lt
theorem bad_inB {r t : Int} (h : entBad (r, t)) : inB r 0 200 = false ∨ (inB r 0 200 = true ∧ inB t 1 1099511627776 = false) := by
  unfold entBad at h
  unfold inB
  simp only at h
  simp only [decide_eq_true_eq, decide_eq_false_iff_not]
  omega
end Go.Proofs.YtkejlnjnoiidnaaGreatDoor
end

section
namespace Go.Proofs.YtkejlnjnoiidnaaGreatDoor
open Go.RowKit
/-- Fits its kind. -/
def tokFits (x : Tok) : Prop := x.1.size ≤ 140737488351232 ∧ (-9223372036854775808 ≤ x.2.1 ∧ x.2.1 ≤ 9223372036854775807) ∧ (-9223372036854775808 ≤ x.2.2 ∧ x.2.2 ≤ 9223372036854775807)
def Toks (w : World) (B : Nat) (A : Option Addr) (n : Nat) (l : List Tok) : Prop := Sl w B 3 A n (l.flatMap tokCells) ∧ ∀ x ∈ l, tokFits x
section
variable {w w' : World} {B n : Nat} {A : Option Addr} {l : List Tok}
theorem Toks.len (h : Toks w B A n l) : l.length = n := slk_len tokCells 3 (by omega) (fun _ => rfl) h.1
theorem Toks.at_ (h : Toks w B A n l) {k : Nat} (hk : k < n) :
    ∃ b o s r t, A = some ⟨b, o, none⟩ ∧ b < B ∧ l[k]? = some (s, r, t) ∧ tokFits (s, r, t) ∧ w.cell? ⟨b, o + k * 3, none⟩ = some (.string s) ∧ w.cell? ⟨b, o + k * 3 + 1, none⟩ = some (.int .i64 r) ∧ w.cell? ⟨b, o + k * 3 + 2, none⟩ = some (.int .i64 t) := by
  obtain ⟨b, o, x, e, hb, hx, hc⟩ := slk_at tokCells 3 (fun _ => rfl) h.1 h.len hk
  obtain ⟨s, r, t⟩ := x
  exact ⟨b, o, s, r, t, e, hb, hx, h.2 _ (List.mem_of_getElem? hx), hc 0 _ rfl, hc 1 _ rfl, hc 2 _ rfl⟩
theorem Toks.below (h : Toks w B A n l) (hb : Below B w w') : Toks w' B A n l := ⟨h.1.below hb, h.2⟩
theorem Toks.grow (h : Toks w w.heap.size A n l) (hb : Below w.heap.size w w') : Toks w' w'.heap.size A n l := ⟨h.1.grow hb, h.2⟩
end
theorem str_empty (s : ByteArray) : s.toList.isEmpty = decide (s.size = 0) := by
  rw [ByteArray.toList_eq]
  by_cases h : s.size = 0
  · rw [decide_eq_true h]
    have : s.data.toList = [] := by
      apply List.length_eq_zero_iff.1
      simpa using h
    rw [this]; rfl
  · rw [decide_eq_false h]
    rw [List.isEmpty_eq_false_iff]
    intro e
    apply h
    have := congrArg List.length e
    simpa using this
theorem str_no {s : ByteArray} (h : s.size = 0) : s.toList.isEmpty = true := by rw [str_empty, decide_eq_true h]
theorem str_yes {s : ByteArray} (h : s.size ≠ 0) : s.toList.isEmpty = false := by rw [str_empty, decide_eq_false h]
end Go.Proofs.YtkejlnjnoiidnaaGreatDoor
end
