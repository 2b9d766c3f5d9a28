/- The steps of a disk's play, as arguments; two disks side by side. -/
import Derived.Test.YthodlccjnbadhaaDoorOpen
import Derived.Test.YthodlccjnbadhaaDoorRows
import Derived.Test.YthodlccjnbadhaaDoorRCrashB
import Derived.Test.YthodlccjnbadhaaDoorEqual
import Derived.KernelRfl
namespace Go.Proofs.YthodlccjnbadhaaDoor
set_option maxRecDepth 100000
set_option linter.unusedVariables false
open Go.ChangeShapes Go.WideShapes Go.ChangeAt Go.RowKit As
abbrev Tch := Int × Int × ByteArray × Int
def tchCells (x : Tch) : List Value := [.int .i64 x.1, .int .i64 x.2.1, .string x.2.2.1, .int .u64 x.2.2.2]
def tchFits (x : Tch) : Prop := 0 ≤ x.2.2.2 ∧ x.2.2.2 ≤ 18446744073709551615
structure TchArg where
  A : Option Addr
  n : Nat
  c : Nat
  l : List Tch
section
variable {H : Type} {enc : TypeId × Value → H} {w : World} {base : Nat} {spare : Nat → Bool} {held : Bool}
theorem cellsTch : Tryd.prog.cellsOf 34 = 4 := by kernel_rfl
theorem cellsIntT : Tryd.prog.cellsOf 3 = 1 := by kernel_rfl
theorem cellsStrT : Tryd.prog.cellsOf 9 = 1 := by kernel_rfl
theorem cellsU64T : Tryd.prog.cellsOf 32 = 1 := by kernel_rfl
theorem open_tch (cs : List Value) (m : Nat) (y : DataW H × List MemPlace) (h : DataW.trod enc Tryd.prog w base spare held m 34 cs = some y) : ∃ x : Tch, cs = tchCells x ∧ tchFits x := by
  obtain ⟨hcl, hg⟩ := fielded Tryd.underlying34 h
  rw [cellsTch] at hcl
  obtain ⟨a, g0, w0⟩ := field_int hg 0 0 3 rfl rfl rfl Tryd.underlying3 cellsIntT
  obtain ⟨b, g1, w1⟩ := field_int hg 1 1 3 rfl rfl rfl Tryd.underlying3 cellsIntT
  obtain ⟨c, g2, w2⟩ := field_string hg 2 2 9 rfl rfl rfl Tryd.underlying9 cellsStrT
  obtain ⟨d, g3, w3⟩ := field_int hg 3 3 32 rfl rfl rfl Tryd.underlying32 cellsU64T
  refine ⟨(a, b, c, d), ?_, bounds_u64 w3⟩
  match cs, hcl with
  | [p, q, r, s], _ =>
    simp at g0 g1 g2 g3
    subst g0 g1 g2 g3
    rfl
theorem open_tchs {r : Reach} {b0 : Nat} {v : Value} {d : DataW H} {p : List MemPlace} (hv : Value.okWide Tryd.prog w r b0 22 v) (h : DataW.Trod enc Tryd.prog w base spare held 22 v d p) :
    ∃ a : TchArg, v = .slice a.A a.n a.c ∧ (Sl w w.heap.size 4 a.A a.n (a.l.flatMap tchCells) ∧ (∀ x ∈ a.l, tchFits x) ∧ a.n ≤ maxLen) := by
  obtain ⟨A, n, c, l, rfl, hn, hl, hs, ho⟩ := open_elems tchCells 4 (by omega) (fun _ => rfl) tchFits Tryd.underlying22 cellsTch open_tch hv h
  exact ⟨⟨A, n, c, l⟩, rfl, hs, ho, hn⟩
end
theorem tch_at {w : World} {B n : Nat} {A : Option Addr} {l : List Tch} (h : Sl w B 4 A n (l.flatMap tchCells)) (hf : ∀ x ∈ l, tchFits x) {k : Nat} (hk : k < n) :
    ∃ b o x, A = some ⟨b, o, none⟩ ∧ b < B ∧ tchFits x ∧ w.cell? ⟨b, o + k * 4, none⟩ = some (.int .i64 x.1) ∧ w.cell? ⟨b, o + k * 4 + 1, none⟩ = some (.int .i64 x.2.1) ∧ w.cell? ⟨b, o + k * 4 + 2, none⟩ = some (.string x.2.2.1) ∧ w.cell? ⟨b, o + k * 4 + 3, none⟩ = some (.int .u64 x.2.2.2) := by
  obtain ⟨b, o, e, hb, hc⟩ := h.2 (by omega)
  have hl : l.length = n := by have := h.1; rw [flat_len _ 4 (fun _ => rfl)] at this; omega
  have hx : l[k]? = some l[k] := List.getElem?_eq_getElem (by omega)
  exact ⟨b, o, l[k], e, hb, hf _ (List.getElem_mem _), hc (k * 4 + 0) _ (flat_get tchCells 4 (fun _ => rfl) l k 0 _ hx (by omega)), hc (k * 4 + 1) _ (flat_get tchCells 4 (fun _ => rfl) l k 1 _ hx (by omega)), hc (k * 4 + 2) _ (flat_get tchCells 4 (fun _ => rfl) l k 2 _ hx (by omega)), hc (k * 4 + 3) _ (flat_get tchCells 4 (fun _ => rfl) l k 3 _ hx (by omega))⟩
/-- The program's disk lies in blocks below H, the reference's from H on; all of them are new. -/
structure TwoD (w : World) (B H d R M e M1 M2 N n n1 n2 : Nat) (S X : DF) : Prop where
  p : PD w d R M N N n S X
  r : RD w e M1 M2 N n1 n2 S X
  lo : B ≤ d ∧ B ≤ R ∧ B ≤ M ∧ B ≤ H
  hi : d < H ∧ R < H ∧ M < H ∧ H ≤ e ∧ H ≤ M1 ∧ H ≤ M2
  sz : H ≤ w.heap.size
section
variable {w w' : World} {B H d R M e M1 M2 M2' N n n1 n2 n' n1' n2' : Nat} {S X S' X' : DF}
theorem TwoD.below (h : TwoD w B H d R M e M1 M2 N n n1 n2 S X) (hb : Below w.heap.size w w') : TwoD w' B H d R M e M1 M2 N n n1 n2 S X := ⟨h.p.below hb, h.r.below hb, h.lo, h.hi, Nat.le_trans h.sz hb.size⟩
theorem TwoD.rkeep (h : TwoD w B H d R M e M1 M2 N n n1 n2 S X) (ht : Turned (PFoot R M) w w') : RD w' e M1 M2 N n1 n2 S X := by
  have := h.hi
  exact h.r.stays ht (by unfold PFoot; omega) (by unfold PFoot; omega) (by unfold PFoot; omega)
theorem TwoD.pkeep (h : TwoD w B H d R M e M1 M2 N n n1 n2 S X) (ht : Turned (RFoot e M1 M2) w w') : PD w' d R M N N n S X := by
  have := h.hi
  exact h.p.stays ht (by unfold RFoot; omega) (by unfold RFoot; omega) (by unfold RFoot; omega)
theorem pfoot_lo (h : B ≤ R ∧ B ≤ M) {w0 : World} (hb : Below B w0 w) (ht : Turned (PFoot R M) w w') (hB : B ≤ w0.heap.size) : Below B w0 w' :=
  hb.trans (ht.below (by unfold PFoot; rintro i (q | q) <;> omega) (Nat.le_trans hB hb.size))
theorem rfoot_lo (h : B ≤ e ∧ B ≤ M1 ∧ B ≤ M2) {w0 : World} (hb : Below B w0 w) (ht : Turned (RFoot e M1 M2) w w') (hB : B ≤ w0.heap.size) : Below B w0 w' :=
  hb.trans (ht.below (by unfold RFoot; rintro i (q | q | q) <;> omega) (Nat.le_trans hB hb.size))
end
end Go.Proofs.YthodlccjnbadhaaDoor
