/- span.All and Spans of the reference say what spansOf says.

keys.List says what klist says.

What stands while body.Read reads: its reader, its results, its lists.

What stands while Unbody of the reference reads.

A reader's kind and vector.

A region that draws its order, its calls may throw: by an invariant, each operation looked at once; what has come up is closed under what it waits for. Any program.

A reader's vector. Printed by gen_reader.py out of reader.src. -/
import Derived.Test.YtnaclpfcldoebaaGreatDoorZ8
import Derived.Test.YtnaclpfcldoebaaGreatDoorZ2
import Derived.Test.YtnaclpfcldoebaaGreatDoorZ3
import Derived.Test.YtnaclpfcldoebaaGreatDoorZ1
import Derived.Test.YtnaclpfcldoebaaGreatDoorZ6
import Derived.Test.YtnaclpfcldoebaaGreatDoorZ7
import Derived.Laws.OwnMore
section
namespace Go.Proofs.YtnaclpfcldoebaaGreatDoor
open Go.RowKit As
theorem strInfo : (Tryz.prog.info? 9).map (fun i => (i.zero, i.size, i.bytes)) = some (some (.string ⟨#[]⟩), 1, 16) := by kernel_rfl
theorem ownStr_snoc {w : World} {base : Nat} {E : TypeId} {v : Value} {l : List ByteArray} {b : ByteArray} {n : Nat} (hn : l.length = n) (h : w.ownsRow base E 1 v (n + 1) (l.map Value.string ++ [Value.string b])) : w.ownsRow base E 1 v (l ++ [b]).length ((l ++ [b]).map Value.string) := by
  subst hn; simpa using h
/-- A row of the call's own stands behind a call that leaves all that was there. -/
theorem ownsRow_below {w w' : World} {base : Nat} {e : TypeId} {size n : Nat} {v : Value} {xs : List Value} (h : w.ownsRow base e size v n xs) (hb : Below w.heap.size w w') (_ : base ≤ w.heap.size) : w'.ownsRow base e size v n xs := by
  refine h.kept (row := none) ⟨hb.os, hb.tape, hb.output, hb.size, fun i hi _ => hb.block i hi⟩ ?_
  cases v.ownBlock with
  | none => exact .inl rfl
  | some k => exact .inr (by simp)
end Go.Proofs.YtnaclpfcldoebaaGreatDoor
end

section
namespace Go.Proofs.YtnaclpfcldoebaaGreatDoor
open Go.RowKit As Go.Maps
theorem boolZero (w : World) : (zeroValue 4).run Tryz.prog w = .ok (.bool false) w := by kernel_rfl
theorem strKeyed : Keyed Tryz.prog 9 := string_keyed Tryz.underlying9
theorem own_map_ne' {P : Program} {w : World} {base : Nat} {e : TypeId} {size n : Nat} {v : Value} {xs : List Value} {k : TypeId} {R : Value → Option (DataW Unit × List MemPlace)} {b m : Nat} {D : DataW Unit}
    (h : w.ownsRow base e size v n xs) (hm : w.ownsMap P k R b m D) : some b ≠ v.ownBlock := by
  obtain ⟨es, clock, hb, _⟩ := hm
  rcases h.2 with ⟨rfl, _⟩ | ⟨g, cap, cur, rfl, _, hh, _⟩
  · simp [Value.ownBlock]
  · intro e0
    have : b = g := by simpa [Value.ownBlock] using e0
    subst this
    rw [hb] at hh
    injection hh with hh
    cases hh
set_option maxHeartbeats 2000000 in
set_option maxRecDepth 100000 in
theorem klist_any (n c n' c' : Nat) (A A' : Option Addr) (T : List ByteArray) (l : List Int) (w : World) (h : Strs w A n T) (h' : Ints w A' n' l) (hn : n ≤ 1000) (hn' : n' ≤ 1000) (hsz : ∀ s ∈ T, s.size ≤ maxLen) (hli : ∀ x ∈ l, -9223372036854775808 ≤ x ∧ x ≤ 9223372036854775807) :
    Calls Tryz.prog 28 #[.slice A n c, .slice A' n' c'] w fun e w' => ∃ v x, e = .returned (.tuple #[v, x]) ∧ w'.ownsRow w.heap.size 9 1 v (klist T l).1.length ((klist T l).1.map Value.string) ∧ ErrIs w' x (klist T l).2.1 (klist T l).2.2 ∧ Below w.heap.size w w' := by
  have hmm := @run_makeMap Tryz.prog
  obtain ⟨i0, hi, hz0, hz1, hz2⟩ := info_parts strInfo
  have hT := Lib.hid (sl1_len Value.string h)
  have hL := Lib.hid (sl1_len (Value.int .i64) h')
  go_enter Tryz.func28, Tryz.ntmps28
  go_wp2
  go_loopw [7, 8, 16] (fun _ _ i wr => ∃ k : Nat, k ≤ n ∧ i = .int .i64 k ∧ KT T k ∧ (∃ D : DataW Unit, wr.ownsMap Tryz.prog 9 (plainElem Tryz.prog 4) w.heap.size k D ∧ SaysOf D (T.take k)) ∧ Below w.heap.size w wr) (fun _ _ i _ => n - (intOf i).toNat)
  case atStart => exact ⟨0, by omega, rfl, KT.zero T, ⟨_, World.ownsMap_made _ _ _ _, SaysOf.nil⟩, below1 _ _⟩
  case round =>
    obtain ⟨k, hk, rfl, hkt, ⟨D, hM, hD⟩, hbel⟩ := hrel
    have HK := Lib.hid hkt
    clear hkt
    have hB := hbel.size
    by_cases hlt : k < n
    · obtain ⟨b, o, s, rfl, hb, hx, hc⟩ := sl1_at Value.string h hT.out hlt
      have hc' := (hbel.cell (p := ⟨b, o + k, none⟩) hb).trans hc
      clear hc
      have hs : s.size ≤ maxLen := hsz s (List.mem_of_getElem? hx)
      have hkn : (k : Int) < (n : Int) := by omega
      have hat := hD s
      have htk := Lib.hid (show T.take (k + 1) = T.take k ++ [s] by
        obtain ⟨h1, h2⟩ := List.getElem?_eq_some_iff.1 hx
        rw [List.take_succ_eq_append_getElem h1, h2])
      have hX := Lib.hid hx
      clear hx
      have HD := Lib.hid hD
      clear hD
      by_cases hm : s ∈ T.take k
      · have hres := Lib.hid (klist_twice (a := l) (HK.out.hit hX.out hm))
        rw [decide_eq_true hm] at hat
        have HAT := Lib.hid hat
        clear hat
        go_wp2_with (first
          | (at_lookup; refine wpList_lookup_own_bool _ rfl _ _ 113 rfl 9 4 strKeyed Tryz.underlying113 Tryz.underlying4 (boolZero _) w.heap.size k D rfl hM _ _ rfl (WideMaps.keyOf_string_mk Tryz.underlying9 hs) true HAT.out ?_))
        go_ret2
        refine ⟨_, _, rfl, ?_, ?_, hbel.alloc hB _⟩
        · rw [hres.out]; exact World.ownsRow_nil _ _ _ _
        · rw [hres.out]; exact err_at _ _ 9 k (by omega) rfl
      · have hnext := Lib.hid (HK.out.succ hX.out hm)
        rw [decide_eq_false hm] at hat
        have HAT := Lib.hid hat
        clear hat
        go_wp2_with (first
          | (at_lookup; refine wpList_lookup_own_bool _ rfl _ _ 113 rfl 9 4 strKeyed Tryz.underlying113 Tryz.underlying4 (boolZero _) w.heap.size k D rfl hM _ _ rfl (WideMaps.keyOf_string_mk Tryz.underlying9 hs) false HAT.out ?_)
          | (at_mapUpdate; refine wpList_mapUpdate_own _ rfl _ _ _ 113 rfl 9 4 strKeyed Tryz.underlying113 _ w.heap.size k D rfl hM (by unfold maxLen; omega) _ _ _ rfl rfl (WideMaps.keyOf_string_mk Tryz.underlying9 hs) _ [] (plainElem_bool Tryz.underlying4 true) ?_; intro w1 hM1 hg1; have hb1 := hbel.grown hg1 hB (fun j hj => by cases hj; exact Nat.le_refl _)))
        go_roundw
        case rel => exact ⟨k + 1, by omega, by go_num, hnext.out, ⟨_, hM1, by rw [htk.out]; exact HD.out.put hM.isMap⟩, hb1⟩
        case measure => simp [intOf]; omega
    · obtain rfl : k = n := by omega
      have honce := HK.out.all (by rw [hT.out]; exact Nat.le_refl _)
      have hres := Lib.hid (klist_once (a := l) honce)
      clear honce hlt hM hD
      go_wp2
      go_loopw [9, 10, 11, 12, 33] (fun v m _ _ i wx => ∃ (k next : Nat) (out : List ByteArray), k ≤ n' ∧ i = .int .i64 k ∧ m = .int .i64 next ∧ KA T l k next out ∧ wx.ownsRow w.heap.size 9 1 v out.length (out.map Value.string) ∧ Below w.heap.size w wx) (fun _ _ _ _ i _ => n' - (intOf i).toNat)
      case atStart => exact ⟨0, 0, [], by omega, rfl, rfl, KA.zero T l, World.ownsRow_nil _ _ _ _, hbel⟩
      case round =>
        clear hbel hB
        obtain ⟨j, next, out, hj, rfl, rfl, hka, hO, hbel⟩ := hrel
        have hB := hbel.size
        have hol := hka.len
        have hnx := hka.le
        have hnx' := hka.le'
        have hTl := hT.out
        rw [hTl] at hnx
        have HKA := Lib.hid hka
        have HTL := Lib.hid hTl
        clear hka hTl
        by_cases hlt : j < n'
        · obtain ⟨b, o, x, rfl, hb, hx, hc⟩ := sl1_at (Value.int .i64) h' hL.out hlt
          have hc' := (hbel.cell (p := ⟨b, o + j, none⟩) hb).trans hc
          clear hc
          have hxi := hli x (List.mem_of_getElem? hx)
          have hX := Lib.hid hx
          clear hx
          by_cases h1 : x < 0 ∨ (k : Int) ≤ x
          · have hr := Lib.hid (HKA.out.range hX.out (by rw [HTL.out]; exact h1))
            have hq : decide (x < 0) = true ∨ (decide (x < 0) = false ∧ decide ((k : Int) ≤ x) = true) := by
              simp only [decide_eq_true_eq, decide_eq_false_iff_not]; omega
            clear h1
            rcases hq with d0 | ⟨d0, d1⟩
            all_goals
              go_wp2
              go_ret2
              refine ⟨_, _, rfl, ?_, ?_, hbel.alloc hB _⟩
              · rw [hres.out, hr.out]; exact World.ownsRow_nil _ _ _ _
              · rw [hres.out, hr.out]; exact err_at _ _ 2 j (by omega) rfl
          · have d0 : decide (x < 0) = false := by simp; omega
            have d1 : decide ((k : Int) ≤ x) = false := by simp; omega
            have H1 := Lib.hid h1
            by_cases h2 : (next : Int) < x
            · have hr := Lib.hid (HKA.out.false hX.out (by rw [HTL.out]; exact h1) h2)
              have d2 : decide ((next : Int) < x) = true := by simpa using h2
              clear h1 h2
              go_wp2
              go_ret2
              refine ⟨_, _, rfl, ?_, ?_, hbel.alloc hB _⟩
              · rw [hres.out, hr.out]; exact World.ownsRow_nil _ _ _ _
              · rw [hres.out, hr.out]; exact err_at _ _ 13 j (by omega) rfl
            · have d2 : decide ((next : Int) < x) = false := by simpa using h2
              obtain ⟨y, rfl⟩ := Int.eq_ofNat_of_zero_le (show 0 ≤ x by omega)
              have hyk : y < k := by omega
              have d1' : decide (k ≤ y) = false := by simpa using hyk
              have d2' : decide (next < y) = false := by simp; omega
              obtain ⟨b2, o2, s2, rfl, hb2, hx2, hc2⟩ := sl1_at Value.string h hT.out hyk
              have hc3 := (hbel.cell (p := ⟨b2, o2 + y, none⟩) hb2).trans hc2
              have hg2 := Lib.hid (show T.getD (y : Int).toNat (strOf []) = s2 by rw [Int.toNat_natCast]; simp [List.getD, hx2])
              have hX2 := Lib.hid hx2
              clear hc2 hx2
              by_cases h3 : y = next
              · have hnew := HKA.out.new hX.out (by rw [HTL.out]; exact h1) (by rw [h3])
                rw [hg2.out] at hnew
                have HNEW := Lib.hid hnew
                have d3 : ((y : Int) == (next : Int)) = true := by rw [h3]; simp
                clear h1 h2 hnew
                subst h3
                go_wp2_with (first
                  | (at_builtin; refine wpList_append_own _ rfl (.tmp 65) (.tmp 70) 51 rfl w.heap.size 9 i0 (.string ⟨#[]⟩) 1 16 Tryz.underlying51 hi hz0 hz1 hz2 rfl (by decide) u9 out.length (out.map Value.string) rfl (hO.alloc _) ⟨wr.heap.size, 0, none⟩ 1 1 [.string s2] rfl rfl (cells_new1 _ _ _) (by intro u hu; simp at hu; subst hu; rfl) (by unfold maxLen; omega) (by omega) (by simp; omega) ?_; intro v1 w2 hO2 hg3 _; have hb3 := grown_own (hbel.alloc hB _) hg3 (by simp; omega) (hO.alloc _); have hO3 := ownStr_snoc rfl hO2))
                go_roundw
                case rel => exact ⟨j + 1, y + 1, _, by omega, by go_num, by go_num, HNEW.out, hO3, hb3⟩
                case measure => simp [intOf]; omega
              · have hold := HKA.out.old hX.out (by rw [HTL.out]; exact h1) (show (y : Int) < (next : Int) by omega)
                rw [hg2.out] at hold
                have HOLD := Lib.hid hold
                have d3 : ((y : Int) == (next : Int)) = false := by rw [beq_eq_false_iff_ne]; omega
                clear h1 h2 hold
                go_wp2_with (first
                  | (at_builtin; refine wpList_append_own _ rfl (.tmp 65) (.tmp 70) 51 rfl w.heap.size 9 i0 (.string ⟨#[]⟩) 1 16 Tryz.underlying51 hi hz0 hz1 hz2 rfl (by decide) u9 out.length (out.map Value.string) rfl (hO.alloc _) ⟨wr.heap.size, 0, none⟩ 1 1 [.string s2] rfl rfl (cells_new1 _ _ _) (by intro u hu; simp at hu; subst hu; rfl) (by unfold maxLen; omega) (by omega) (by simp; omega) ?_; intro v1 w2 hO2 hg3 _; have hb3 := grown_own (hbel.alloc hB _) hg3 (by simp; omega) (hO.alloc _); have hO3 := ownStr_snoc rfl hO2))
                go_roundw
                case rel => exact ⟨j + 1, next, _, by omega, by go_num, rfl, HOLD.out, hO3, hb3⟩
                case measure => simp [intOf]; omega
        · obtain rfl : j = n' := by omega
          by_cases h4 : next < k
          · have hr := Lib.hid (HKA.out.less (by rw [hL.out]; exact Nat.le_refl _) (by rw [HTL.out]; exact h4))
            have d4 : decide (next < k) = true := by simpa using h4
            clear h4
            go_wp2
            go_ret2
            refine ⟨_, _, rfl, ?_, ?_, hbel⟩
            · rw [hres.out, hr.out]; exact World.ownsRow_nil _ _ _ _
            · rw [hres.out, hr.out]; exact .bare 8 (by omega)
          · have hr := Lib.hid (HKA.out.done (by rw [hL.out]; exact Nat.le_refl _) (by rw [HTL.out]; exact h4))
            have d4 : decide (next < k) = false := by simpa using h4
            clear h4
            go_wp2
            go_ret2
            refine ⟨_, _, rfl, ?_, ?_, hbel⟩
            · rw [hres.out, hr.out]; exact hO
            · rw [hres.out, hr.out]; exact .none
end Go.Proofs.YtnaclpfcldoebaaGreatDoor
end

section
namespace Go.Proofs.YtnaclpfcldoebaaGreatDoor
set_option linter.unusedSimpArgs false
set_option linter.unusedVariables false
open Go.RowKit As
def wrsV (l : List Wr) : List Value := l.flatMap wrCells
def intsV (l : List Int) : List Value := l.map fun x => Value.int .i64 x
/-- Where the results, the error, the reader lie; B is above all of them. -/
structure BS (w0 : World) (O E R B : Nat) : Prop where
  o : O < B
  e : E < B
  r : R < B
  oe : O ≠ E
  ro : R ≠ O
  re : R ≠ E
  lo : w0.heap.size ≤ O
  le : w0.heap.size ≤ E
  lr : w0.heap.size ≤ R
structure BL (w0 : World) (O E R B : Nat) (s : ByteArray) (p : Nat) (v0 v1 v2 tv av : Value) (f h : List Ent) (ws : List Wr) (T : List ByteArray) (a : List Int) (w : World) : Prop where
  sc : Sc w R s p
  bt : BT w O E v0 v1 v2 .nilIface
  f : w.ownsRow B 62 2 v0 f.length (entV f)
  h : w.ownsRow B 62 2 v1 h.length (entV h)
  t : w.ownsRow B 9 1 tv T.length (T.map Value.string)
  ws : w.ownsRow B 59 6 v2 ws.length (wrsV ws)
  a : w.ownsRow B 3 1 av a.length (intsV a)
  bel : Below w0.heap.size w0 w
  sz : B ≤ w.heap.size
section
variable {w0 w w' : World} {O E R B p : Nat} {s : ByteArray} {v0 v1 v2 tv av v : Value} {f h : List Ent} {ws : List Wr} {T : List ByteArray} {a : List Int}
theorem BS.lb (S : BS w0 O E R B) : w0.heap.size ≤ B := Nat.le_trans S.lo (Nat.le_of_lt S.o)
theorem BL.below (H : BL w0 O E R B s p v0 v1 v2 tv av f h ws T a w) (hb : Below w.heap.size w w') : BL w0 O E R B s p v0 v1 v2 tv av f h ws T a w' :=
  ⟨H.sc.below hb, H.bt.below hb, own_below H.f hb, own_below H.h hb, own_below H.t hb, own_below H.ws hb, own_below H.a hb, H.bel.trans (hb.mono H.bel.size), Nat.le_trans H.sz hb.size⟩
theorem BL.setR (H : BL w0 O E R B s p v0 v1 v2 tv av f h ws T a w) (S : BS w0 O E R B) (n : Nat) : BL w0 O E R B s n v0 v1 v2 tv av f h ws T a (w.setCell ⟨R, 1, none⟩ (.int .i64 (n : Int))) :=
  ⟨H.sc.step n, H.bt.other S.ro S.re _, own_set _ H.f S.r, own_set _ H.h S.r, own_set _ H.t S.r, own_set _ H.ws S.r, own_set _ H.a S.r, H.bel.setCell (p := ⟨R, 1, none⟩) S.lr _, by simpa using H.sz⟩
theorem BL.step (H : BL w0 O E R B s p v0 v1 v2 tv av f h ws T a w) (S : BS w0 O E R B) (q n : Nat) : BL w0 O E R B s n v0 v1 v2 tv av f h ws T a ((w.drewN q).setCell ⟨R, 1, none⟩ (.int .i64 (n : Int))) :=
  (H.below (below_drewN (Below.refl _ _) q)).setR S n
theorem BL.growT (H : BL w0 O E R B s p v0 v1 v2 tv av f h ws T a w) (S : BS w0 O E R B) (hg : w.grownBy w' tv.ownBlock) {T' : List ByteArray} (ht : w'.ownsRow B 9 1 v T'.length (T'.map Value.string)) : BL w0 O E R B s p v0 v1 v2 v av f h ws T' a w' :=
  have bb := grown_own (Below.refl B w) hg H.sz H.t
  ⟨H.sc.keep bb S.r, H.bt.keep bb S.o S.e, H.f.kept hg (own_ne H.f H.t (by decide)), H.h.kept hg (own_ne H.h H.t (by decide)), ht, H.ws.kept hg (own_ne H.ws H.t (by decide)), H.a.kept hg (own_ne H.a H.t (by decide)), H.bel.trans (bb.mono S.lb), Nat.le_trans H.sz bb.size⟩
theorem BL.growA (H : BL w0 O E R B s p v0 v1 v2 tv av f h ws T a w) (S : BS w0 O E R B) (hg : w.grownBy w' av.ownBlock) {a' : List Int} (ht : w'.ownsRow B 3 1 v a'.length (intsV a')) : BL w0 O E R B s p v0 v1 v2 tv v f h ws T a' w' :=
  have bb := grown_own (Below.refl B w) hg H.sz H.a
  ⟨H.sc.keep bb S.r, H.bt.keep bb S.o S.e, H.f.kept hg (own_ne H.f H.a (by decide)), H.h.kept hg (own_ne H.h H.a (by decide)), H.t.kept hg (own_ne H.t H.a (by decide)), H.ws.kept hg (own_ne H.ws H.a (by decide)), ht, H.bel.trans (bb.mono S.lb), Nat.le_trans H.sz bb.size⟩
theorem BL.growW (H : BL w0 O E R B s p v0 v1 v2 tv av f h ws T a w) (S : BS w0 O E R B) (hg : w.grownBy w' v2.ownBlock) {ws' : List Wr} (ht : w'.ownsRow B 59 6 v ws'.length (wrsV ws')) : BL w0 O E R B s p v0 v1 v tv av f h ws' T a (w'.setCell ⟨O, 2, none⟩ v) :=
  have bb := grown_own (Below.refl B w) hg H.sz H.ws
  ⟨by have k := H.sc.keep bb S.r; exact ⟨res_nb k.c0 (Ne.symm S.ro), res_nb k.c1 (Ne.symm S.ro), by simpa using k.f1⟩, (H.bt.keep bb S.o S.e).set2 S.oe _, own_set _ (H.f.kept hg (own_ne H.f H.ws (by decide))) S.o, own_set _ (H.h.kept hg (own_ne H.h H.ws (by decide))) S.o, own_set _ (H.t.kept hg (own_ne H.t H.ws (by decide))) S.o, own_set _ ht S.o, own_set _ (H.a.kept hg (own_ne H.a H.ws (by decide))) S.o, (H.bel.trans (bb.mono S.lb)).setCell (p := ⟨O, 2, none⟩) S.lo _, by simpa using Nat.le_trans H.sz bb.size⟩
theorem BL.vecs {f' h' : List Ent} {u0 u1 : Value} (H : BL w0 O E R B s p u0 u1 v2 tv av f' h' ws T a w) (S : BS w0 O E R B) (hf : w.ownsRow B 62 2 v0 f.length (entV f)) (hh : w.ownsRow B 62 2 v1 h.length (entV h)) : BL w0 O E R B s p v0 v1 v2 tv av f h ws T a ((w.setCell ⟨O, 0, none⟩ v0).setCell ⟨O, 1, none⟩ v1) :=
  ⟨⟨res_nb (res_nb H.sc.c0 (Ne.symm S.ro)) (Ne.symm S.ro), res_nb (res_nb H.sc.c1 (Ne.symm S.ro)) (Ne.symm S.ro), by simpa using H.sc.f1⟩, (H.bt.set0 S.oe _).set1 S.oe _, own_set _ (own_set _ hf S.o) S.o, own_set _ (own_set _ hh S.o) S.o, own_set _ (own_set _ H.t S.o) S.o, own_set _ (own_set _ H.ws S.o) S.o, own_set _ (own_set _ H.a S.o) S.o, (H.bel.setCell (p := ⟨O, 0, none⟩) S.lo _).setCell (p := ⟨O, 1, none⟩) S.lo _, by simpa using H.sz⟩
theorem wrsV_snoc {w : World} {base : Nat} {E : TypeId} {v : Value} {l : List Wr} {x : Wr} {n : Nat} (hn : l.length = n) (h : w.ownsRow base E 6 v (n + 1) (wrsV l ++ wrCells x)) : w.ownsRow base E 6 v (l ++ [x]).length (wrsV (l ++ [x])) := by
  subst hn
  simpa [wrsV, List.flatMap_append] using h
theorem intsV_snoc {w : World} {base : Nat} {E : TypeId} {v : Value} {l : List Int} {x : Int} {n : Nat} (hn : l.length = n) (h : w.ownsRow base E 1 v (n + 1) (intsV l ++ [Value.int .i64 x])) : w.ownsRow base E 1 v (l ++ [x]).length (intsV (l ++ [x])) := by
  subst hn
  simpa [intsV] using h
end
/-- The write that is being read, in its block g. -/
structure BLG (w0 : World) (O E R B g : Nat) (x : Wr) (s : ByteArray) (p : Nat) (v0 v1 v2 tv av : Value) (f h : List Ent) (ws : List Wr) (T : List ByteArray) (a : List Int) (w : World) : Prop where
  b : BL w0 O E R B s p v0 v1 v2 tv av f h ws T a w
  k : w.ownsRow B 59 6 (.slice (some ⟨g, 0, none⟩) 1 1) 1 (wrCells x)
  off : v2.ownBlock = none ∨ v2.ownBlock ≠ some g
section
variable {w0 w w' : World} {O E R B g p : Nat} {x : Wr} {s : ByteArray} {v0 v1 v2 tv av v : Value} {f h : List Ent} {ws : List Wr} {T : List ByteArray} {a : List Int}
theorem BLG.ge (H : BLG w0 O E R B g x s p v0 v1 v2 tv av f h ws T a w) : B ≤ g := (H.k.lt g rfl).1
theorem BLG.lt (H : BLG w0 O E R B g x s p v0 v1 v2 tv av f h ws T a w) : g < w.heap.size := (H.k.lt g rfl).2
theorem BL.newG (H : BL w0 O E R B s p v0 v1 v2 tv av f h ws T a w) (x : Wr) : BLG w0 O E R B w.heap.size x s p v0 v1 v2 tv av f h ws T a (w.alloc (wrO x.1 x.2.1 x.2.2.1 x.2.2.2.1 x.2.2.2.2.1 x.2.2.2.2.2)) :=
  ⟨H.below (below1 w _), World.ownsRow_lit w _ 1 H.sz (by unfold maxLen; omega) rfl, by
    rcases hv : v2.ownBlock with _ | k
    · exact .inl rfl
    · have := (H.ws.lt k hv).2
      exact .inr (by simp; omega)⟩
theorem BLG.below (H : BLG w0 O E R B g x s p v0 v1 v2 tv av f h ws T a w) (hb : Below w.heap.size w w') : BLG w0 O E R B g x s p v0 v1 v2 tv av f h ws T a w' := ⟨H.b.below hb, own_below H.k hb, H.off⟩
theorem BLG.setR (H : BLG w0 O E R B g x s p v0 v1 v2 tv av f h ws T a w) (S : BS w0 O E R B) (n : Nat) : BLG w0 O E R B g x s n v0 v1 v2 tv av f h ws T a (w.setCell ⟨R, 1, none⟩ (.int .i64 (n : Int))) := ⟨H.b.setR S n, own_set _ H.k S.r, H.off⟩
theorem BLG.step (H : BLG w0 O E R B g x s p v0 v1 v2 tv av f h ws T a w) (S : BS w0 O E R B) (q n : Nat) : BLG w0 O E R B g x s n v0 v1 v2 tv av f h ws T a ((w.drewN q).setCell ⟨R, 1, none⟩ (.int .i64 (n : Int))) :=
  (H.below (below_drewN (Below.refl _ _) q)).setR S n
theorem BLG.growA (H : BLG w0 O E R B g x s p v0 v1 v2 tv av f h ws T a w) (S : BS w0 O E R B) (hg : w.grownBy w' av.ownBlock) {a' : List Int} (ht : w'.ownsRow B 3 1 v a'.length (intsV a')) : BLG w0 O E R B g x s p v0 v1 v2 tv v f h ws T a' w' :=
  ⟨H.b.growA S hg ht, H.k.kept hg (own_ne H.k H.b.a (by decide)), H.off⟩
theorem BLG.setG (H : BLG w0 O E R B g x s p v0 v1 v2 tv av f h ws T a w) (S : BS w0 O E R B) {y : Wr} (j : Nat) (u : Value) (hy : wrCells y = (wrCells x).set j u) : BLG w0 O E R B g y s p v0 v1 v2 tv av f h ws T a (w.setCell ⟨g, j, none⟩ u) := by
  obtain ⟨h1, h2⟩ := H.k.stored j u
  rw [← hy] at h1
  have hge := H.ge
  have bb : Below B w (w.setCell ⟨g, j, none⟩ u) := (Below.refl B w).setCell (p := ⟨g, j, none⟩) hge _
  exact ⟨⟨H.b.sc.keep bb S.r, H.b.bt.keep bb S.o S.e, H.b.f.kept h2 (own_ne H.b.f H.k (by decide)), H.b.h.kept h2 (own_ne H.b.h H.k (by decide)), H.b.t.kept h2 (own_ne H.b.t H.k (by decide)), H.b.ws.kept h2 H.off, H.b.a.kept h2 (own_ne H.b.a H.k (by decide)), H.b.bel.trans (bb.mono S.lb), by simpa using H.b.sz⟩, h1, H.off⟩
theorem BLG.cell (H : BLG w0 O E R B g x s p v0 v1 v2 tv av f h ws T a w) (j : Nat) (hj : j < 6) : w.cell? ⟨g, j, none⟩ = (wrCells x)[j]? := H.k.cellAt j (by omega)
theorem BLG.froz (H : BLG w0 O E R B g x s p v0 v1 v2 tv av f h ws T a w) (j : Nat) : w.frozen? ⟨g, j, none⟩ = false := H.k.frozenAt j
theorem BLG.at_ (H : BLG w0 O E R B g x s p v0 v1 v2 tv av f h ws T a w) : WrAt w g x.1 x.2.1 x.2.2.1 x.2.2.2.1 x.2.2.2.2.1 x.2.2.2.2.2 :=
  ⟨H.cell 0 (by omega), H.cell 1 (by omega), H.cell 2 (by omega), H.cell 3 (by omega), H.cell 4 (by omega), H.cell 5 (by omega)⟩
theorem BLG.free (H : BLG w0 O E R B g x s p v0 v1 v2 tv av f h ws T a w) : Free6 w g := ⟨H.froz 0, H.froz 1, H.froz 2, H.froz 3, H.froz 4, H.froz 5⟩
end
end Go.Proofs.YtnaclpfcldoebaaGreatDoor
end

section
namespace Go.Proofs.YtnaclpfcldoebaaGreatDoor
set_option linter.unusedSimpArgs false
set_option linter.unusedVariables false
open Go.RowKit As
structure RL (w0 : World) (O E R B : Nat) (s : ByteArray) (p : Nat) (v0 v1 v2 tv av : Value) (f h : List Ent) (ws : List Wr) (T : List ByteArray) (a : List Int) (w : World) : Prop where
  sc : Sc w R s p
  bt : RB w O E v0 v1 v2 0 (-1)
  f : w.ownsRow B 62 2 v0 f.length (entV f)
  h : w.ownsRow B 62 2 v1 h.length (entV h)
  t : w.ownsRow B 9 1 tv T.length (T.map Value.string)
  ws : w.ownsRow B 59 6 v2 ws.length (wrsV ws)
  a : w.ownsRow B 3 1 av a.length (intsV a)
  bel : Below w0.heap.size w0 w
  sz : B ≤ w.heap.size
section
variable {w0 w w' : World} {O E R B p : Nat} {s : ByteArray} {v0 v1 v2 tv av v : Value} {f h : List Ent} {ws : List Wr} {T : List ByteArray} {a : List Int}
theorem RL.below (H : RL w0 O E R B s p v0 v1 v2 tv av f h ws T a w) (hb : Below w.heap.size w w') : RL w0 O E R B s p v0 v1 v2 tv av f h ws T a w' :=
  ⟨H.sc.below hb, H.bt.below hb, own_below H.f hb, own_below H.h hb, own_below H.t hb, own_below H.ws hb, own_below H.a hb, H.bel.trans (hb.mono H.bel.size), Nat.le_trans H.sz hb.size⟩
theorem RL.setR (H : RL w0 O E R B s p v0 v1 v2 tv av f h ws T a w) (S : BS w0 O E R B) (n : Nat) : RL w0 O E R B s n v0 v1 v2 tv av f h ws T a (w.setCell ⟨R, 1, none⟩ (.int .i64 (n : Int))) :=
  ⟨H.sc.step n, H.bt.other S.ro S.re _, own_set _ H.f S.r, own_set _ H.h S.r, own_set _ H.t S.r, own_set _ H.ws S.r, own_set _ H.a S.r, H.bel.setCell (p := ⟨R, 1, none⟩) S.lr _, by simpa using H.sz⟩
theorem RL.step (H : RL w0 O E R B s p v0 v1 v2 tv av f h ws T a w) (S : BS w0 O E R B) (q n : Nat) : RL w0 O E R B s n v0 v1 v2 tv av f h ws T a ((w.drewN q).setCell ⟨R, 1, none⟩ (.int .i64 (n : Int))) :=
  (H.below (below_drewN (Below.refl _ _) q)).setR S n
theorem RL.growT (H : RL w0 O E R B s p v0 v1 v2 tv av f h ws T a w) (S : BS w0 O E R B) (hg : w.grownBy w' tv.ownBlock) {T' : List ByteArray} (ht : w'.ownsRow B 9 1 v T'.length (T'.map Value.string)) : RL w0 O E R B s p v0 v1 v2 v av f h ws T' a w' :=
  have bb := grown_own (Below.refl B w) hg H.sz H.t
  ⟨H.sc.keep bb S.r, H.bt.keep bb S.o S.e, H.f.kept hg (own_ne H.f H.t (by decide)), H.h.kept hg (own_ne H.h H.t (by decide)), ht, H.ws.kept hg (own_ne H.ws H.t (by decide)), H.a.kept hg (own_ne H.a H.t (by decide)), H.bel.trans (bb.mono S.lb), Nat.le_trans H.sz bb.size⟩
theorem RL.growA (H : RL w0 O E R B s p v0 v1 v2 tv av f h ws T a w) (S : BS w0 O E R B) (hg : w.grownBy w' av.ownBlock) {a' : List Int} (ht : w'.ownsRow B 3 1 v a'.length (intsV a')) : RL w0 O E R B s p v0 v1 v2 tv v f h ws T a' w' :=
  have bb := grown_own (Below.refl B w) hg H.sz H.a
  ⟨H.sc.keep bb S.r, H.bt.keep bb S.o S.e, H.f.kept hg (own_ne H.f H.a (by decide)), H.h.kept hg (own_ne H.h H.a (by decide)), H.t.kept hg (own_ne H.t H.a (by decide)), H.ws.kept hg (own_ne H.ws H.a (by decide)), ht, H.bel.trans (bb.mono S.lb), Nat.le_trans H.sz bb.size⟩
theorem RL.growW (H : RL w0 O E R B s p v0 v1 v2 tv av f h ws T a w) (S : BS w0 O E R B) (hg : w.grownBy w' v2.ownBlock) {ws' : List Wr} (ht : w'.ownsRow B 59 6 v ws'.length (wrsV ws')) : RL w0 O E R B s p v0 v1 v tv av f h ws' T a (w'.setCell ⟨O, 2, none⟩ v) :=
  have bb := grown_own (Below.refl B w) hg H.sz H.ws
  ⟨by have k := H.sc.keep bb S.r; exact ⟨res_nb k.c0 (Ne.symm S.ro), res_nb k.c1 (Ne.symm S.ro), by simpa using k.f1⟩, (H.bt.keep bb S.o S.e).set2 S.oe _, own_set _ (H.f.kept hg (own_ne H.f H.ws (by decide))) S.o, own_set _ (H.h.kept hg (own_ne H.h H.ws (by decide))) S.o, own_set _ (H.t.kept hg (own_ne H.t H.ws (by decide))) S.o, own_set _ ht S.o, own_set _ (H.a.kept hg (own_ne H.a H.ws (by decide))) S.o, (H.bel.trans (bb.mono S.lb)).setCell (p := ⟨O, 2, none⟩) S.lo _, by simpa using Nat.le_trans H.sz bb.size⟩
theorem RL.vecs {f' h' : List Ent} {u0 u1 : Value} (H : RL w0 O E R B s p u0 u1 v2 tv av f' h' ws T a w) (S : BS w0 O E R B) (hf : w.ownsRow B 62 2 v0 f.length (entV f)) (hh : w.ownsRow B 62 2 v1 h.length (entV h)) : RL w0 O E R B s p v0 v1 v2 tv av f h ws T a ((w.setCell ⟨O, 0, none⟩ v0).setCell ⟨O, 1, none⟩ v1) :=
  ⟨⟨res_nb (res_nb H.sc.c0 (Ne.symm S.ro)) (Ne.symm S.ro), res_nb (res_nb H.sc.c1 (Ne.symm S.ro)) (Ne.symm S.ro), by simpa using H.sc.f1⟩, (H.bt.set0 S.oe _).set1 S.oe _, own_set _ (own_set _ hf S.o) S.o, own_set _ (own_set _ hh S.o) S.o, own_set _ (own_set _ H.t S.o) S.o, own_set _ (own_set _ H.ws S.o) S.o, own_set _ (own_set _ H.a S.o) S.o, (H.bel.setCell (p := ⟨O, 0, none⟩) S.lo _).setCell (p := ⟨O, 1, none⟩) S.lo _, by simpa using H.sz⟩
end
/-- Its write, in block g. -/
structure RLG (w0 : World) (O E R B g : Nat) (x : Wr) (s : ByteArray) (p : Nat) (v0 v1 v2 tv av : Value) (f h : List Ent) (ws : List Wr) (T : List ByteArray) (a : List Int) (w : World) : Prop where
  b : RL w0 O E R B s p v0 v1 v2 tv av f h ws T a w
  k : w.ownsRow B 59 6 (.slice (some ⟨g, 0, none⟩) 1 1) 1 (wrCells x)
  off : v2.ownBlock = none ∨ v2.ownBlock ≠ some g
section
variable {w0 w w' : World} {O E R B g p : Nat} {x : Wr} {s : ByteArray} {v0 v1 v2 tv av v : Value} {f h : List Ent} {ws : List Wr} {T : List ByteArray} {a : List Int}
theorem RLG.ge (H : RLG w0 O E R B g x s p v0 v1 v2 tv av f h ws T a w) : B ≤ g := (H.k.lt g rfl).1
theorem RLG.lt (H : RLG w0 O E R B g x s p v0 v1 v2 tv av f h ws T a w) : g < w.heap.size := (H.k.lt g rfl).2
theorem RL.newG (H : RL w0 O E R B s p v0 v1 v2 tv av f h ws T a w) (x : Wr) : RLG w0 O E R B w.heap.size x s p v0 v1 v2 tv av f h ws T a (w.alloc (wrO x.1 x.2.1 x.2.2.1 x.2.2.2.1 x.2.2.2.2.1 x.2.2.2.2.2)) :=
  ⟨H.below (below1 w _), World.ownsRow_lit w _ 1 H.sz (by unfold maxLen; omega) rfl, by
    rcases hv : v2.ownBlock with _ | k
    · exact .inl rfl
    · have := (H.ws.lt k hv).2
      exact .inr (by simp; omega)⟩
theorem RLG.below (H : RLG w0 O E R B g x s p v0 v1 v2 tv av f h ws T a w) (hb : Below w.heap.size w w') : RLG w0 O E R B g x s p v0 v1 v2 tv av f h ws T a w' := ⟨H.b.below hb, own_below H.k hb, H.off⟩
theorem RLG.setR (H : RLG w0 O E R B g x s p v0 v1 v2 tv av f h ws T a w) (S : BS w0 O E R B) (n : Nat) : RLG w0 O E R B g x s n v0 v1 v2 tv av f h ws T a (w.setCell ⟨R, 1, none⟩ (.int .i64 (n : Int))) := ⟨H.b.setR S n, own_set _ H.k S.r, H.off⟩
theorem RLG.step (H : RLG w0 O E R B g x s p v0 v1 v2 tv av f h ws T a w) (S : BS w0 O E R B) (q n : Nat) : RLG w0 O E R B g x s n v0 v1 v2 tv av f h ws T a ((w.drewN q).setCell ⟨R, 1, none⟩ (.int .i64 (n : Int))) :=
  (H.below (below_drewN (Below.refl _ _) q)).setR S n
theorem RLG.growA (H : RLG w0 O E R B g x s p v0 v1 v2 tv av f h ws T a w) (S : BS w0 O E R B) (hg : w.grownBy w' av.ownBlock) {a' : List Int} (ht : w'.ownsRow B 3 1 v a'.length (intsV a')) : RLG w0 O E R B g x s p v0 v1 v2 tv v f h ws T a' w' :=
  ⟨H.b.growA S hg ht, H.k.kept hg (own_ne H.k H.b.a (by decide)), H.off⟩
theorem RLG.setG (H : RLG w0 O E R B g x s p v0 v1 v2 tv av f h ws T a w) (S : BS w0 O E R B) {y : Wr} (j : Nat) (u : Value) (hy : wrCells y = (wrCells x).set j u) : RLG w0 O E R B g y s p v0 v1 v2 tv av f h ws T a (w.setCell ⟨g, j, none⟩ u) := by
  obtain ⟨h1, h2⟩ := H.k.stored j u
  rw [← hy] at h1
  have hge := H.ge
  have bb : Below B w (w.setCell ⟨g, j, none⟩ u) := (Below.refl B w).setCell (p := ⟨g, j, none⟩) hge _
  exact ⟨⟨H.b.sc.keep bb S.r, H.b.bt.keep bb S.o S.e, H.b.f.kept h2 (own_ne H.b.f H.k (by decide)), H.b.h.kept h2 (own_ne H.b.h H.k (by decide)), H.b.t.kept h2 (own_ne H.b.t H.k (by decide)), H.b.ws.kept h2 H.off, H.b.a.kept h2 (own_ne H.b.a H.k (by decide)), H.b.bel.trans (bb.mono S.lb), by simpa using H.b.sz⟩, h1, H.off⟩
theorem RLG.cell (H : RLG w0 O E R B g x s p v0 v1 v2 tv av f h ws T a w) (j : Nat) (hj : j < 6) : w.cell? ⟨g, j, none⟩ = (wrCells x)[j]? := H.k.cellAt j (by omega)
theorem RLG.froz (H : RLG w0 O E R B g x s p v0 v1 v2 tv av f h ws T a w) (j : Nat) : w.frozen? ⟨g, j, none⟩ = false := H.k.frozenAt j
theorem RLG.at_ (H : RLG w0 O E R B g x s p v0 v1 v2 tv av f h ws T a w) : WrAt w g x.1 x.2.1 x.2.2.1 x.2.2.2.1 x.2.2.2.2.1 x.2.2.2.2.2 :=
  ⟨H.cell 0 (by omega), H.cell 1 (by omega), H.cell 2 (by omega), H.cell 3 (by omega), H.cell 4 (by omega), H.cell 5 (by omega)⟩
theorem RLG.free (H : RLG w0 O E R B g x s p v0 v1 v2 tv av f h ws T a w) : Free6 w g := ⟨H.froz 0, H.froz 1, H.froz 2, H.froz 3, H.froz 4, H.froz 5⟩
end
end Go.Proofs.YtnaclpfcldoebaaGreatDoor
end

section
namespace Go.Proofs.YtnaclpfcldoebaaGreatDoor
set_option linter.unusedSimpArgs false
set_option linter.unusedVariables false
open Go.RowKit As
/-- Where kind ends. -/
def KindEnd (s : ByteArray) (R p : Nat) (w : World) (r : Ending) (w' : World) : Prop :=
  (s.size ≤ p ∧ r = .panicked (Faulted 7 p) ∧ Below w.heap.size w w') ∨
  (p < s.size ∧ (byteOf s p < 1 ∨ 4 < byteOf s p) ∧ r = .panicked (Faulted 1 p) ∧ Below w.heap.size w w') ∨
  (p < s.size ∧ ¬ (byteOf s p < 1 ∨ 4 < byteOf s p) ∧ r = .returned (.int .i64 (byteOf s p : Int)) ∧ ∃ q, w' = (w.drewN q).setCell ⟨R, 1, none⟩ (.int .i64 ((p + 1 : Nat) : Int)))
set_option maxHeartbeats 1000000 in
set_option maxRecDepth 100000 in
theorem kind_any (s : ByteArray) (p R : Nat) (w : World) (hs : s.size ≤ 1000000) (hp : p ≤ s.size) (hg : Handle w) (h : Sc w R s p) :
    Calls Tryz.prog 26 #[.pointer (some ⟨R, 0, none⟩)] w fun r w' => KindEnd s R p w r w' := by
  have HS := h
  obtain ⟨c0, c1, f1⟩ := h
  by_cases hend : s.size ≤ p
  · have d0 : ((p : Int) == (s.size : Int)) = true := by rw [beq_iff_eq]; omega
    go_enter Tryz.func26, Tryz.ntmps26
    go_wp2_with fail
    go_quiet (fail)
    have bq := below_drewN (Below.refl w.heap.size w) nq
    go_wp2_with fail
    refine (check_err (.bare 7 (by omega)) (by omega) (hg.below bq) (HS.drewN nq)).mono ?_
    rintro r w' ⟨rfl, hb⟩
    go_wp2
    exact ⟨rfl, .inl ⟨hend, rfl, bq.trans hb⟩⟩
  · have hlt : p < s.size := by omega
    have d0 : ((p : Int) == (s.size : Int)) = false := by rw [beq_eq_false_iff_ne]; omega
    have i1 : (p : Int) < (s.size : Int) := by omega
    have i0 : (0 : Int) ≤ (p : Int) := by omega
    have hB := byteOf_eq s p hlt
    have hB' : ((s[p].toNat : Nat) : Int) = (byteOf s p : Int) := by rw [← hB]
    have hlB := byteOf_lt s p
    have HK : Hid (KindEnd s R p = KindEnd s R p) := Lib.hid rfl
    obtain ⟨K, hK⟩ : ∃ K, K = byteOf s p := ⟨_, rfl⟩
    have HKB := Lib.hid hK
    rw [← hK] at hB hB' hlB
    have wK : IntKind.i64.wrap (K : Int) = (K : Int) := IntWalk.i64_in _ (by omega)
    clear hK
    by_cases h1 : K < 1
    · have t1 : decide ((K : Int) < 1) = true := by simp only [decide_eq_true_eq]; omega
      have t1' : decide (K < 1) = true := by simp only [decide_eq_true_eq]; omega
      have H1 := Lib.hid h1
      clear h1
      go_enter Tryz.func26, Tryz.ntmps26
      go_wp2_with fail
      go_quiet (fail)
      have b1 := below_drewN (Below.refl w.heap.size w) nq
      have g1 := hg.below b1
      have HS1 := HS.drewN nq
      obtain ⟨QQ, hQQ⟩ : ∃ x, x = nq := ⟨_, rfl⟩
      subst hQQ
      obtain ⟨k0, k1, k2⟩ := HS1
      go_wp2_with fail
      go_quiet (fail)
      have bq := below_drewN (Below.refl w.heap.size w) (QQ + nq)
      have HSq := HS.drewN (QQ + nq)
      try rw [hB']
      go_wp2_with fail
      refine (check_err (.bare 1 (by omega)) (by omega) (hg.below bq) HSq).mono ?_
      rintro r w' ⟨rfl, hb⟩
      go_wp2
      exact ⟨rfl, .inr (.inl ⟨hlt, .inl (by rw [← HKB.out]; exact H1.out), rfl, bq.trans hb⟩)⟩
    · have t1 : decide ((K : Int) < 1) = false := by simp only [decide_eq_false_iff_not]; omega
      have t1' : decide (K < 1) = false := by simp only [decide_eq_false_iff_not]; omega
      have H0 := Lib.hid h1
      by_cases h4 : 4 < K
      · have t2 : decide ((4 : Int) < (K : Int)) = true := by simp only [decide_eq_true_eq]; omega
        have t2' : decide (4 < K) = true := by simp only [decide_eq_true_eq]; omega
        have H1 := Lib.hid h4
        clear h1 h4
        go_enter Tryz.func26, Tryz.ntmps26
        go_wp2_with fail
        go_quiet (fail)
        have b1 := below_drewN (Below.refl w.heap.size w) nq
        have g1 := hg.below b1
        have HS1 := HS.drewN nq
        obtain ⟨QQ, hQQ⟩ : ∃ x, x = nq := ⟨_, rfl⟩
        subst hQQ
        obtain ⟨k0, k1, k2⟩ := HS1
        go_wp2_with fail
        go_quiet (fail)
        have bq := below_drewN (Below.refl w.heap.size w) (QQ + nq)
        have HSq := HS.drewN (QQ + nq)
        try rw [hB']
        go_wp2_with fail
        refine (check_err (.bare 1 (by omega)) (by omega) (hg.below bq) HSq).mono ?_
        rintro r w' ⟨rfl, hb⟩
        go_wp2
        exact ⟨rfl, .inr (.inl ⟨hlt, .inr (by rw [← HKB.out]; exact H1.out), rfl, bq.trans hb⟩)⟩
      · have t2 : decide ((4 : Int) < (K : Int)) = false := by simp only [decide_eq_false_iff_not]; omega
        have t2' : decide (4 < K) = false := by simp only [decide_eq_false_iff_not]; omega
        have H1 := Lib.hid (show ¬ (byteOf s p < 1 ∨ 4 < byteOf s p) by rw [← HKB.out]; omega)
        have w1 : IntKind.i64.wrap ((p : Int) + 1) = ((p + 1 : Nat) : Int) := IntWalk.i64_in _ (by omega)
        clear h1 h4
        go_enter Tryz.func26, Tryz.ntmps26
        go_wp2_with fail
        go_quiet (fail)
        have b1 := below_drewN (Below.refl w.heap.size w) nq
        have g1 := hg.below b1
        have HS1 := HS.drewN nq
        obtain ⟨QQ, hQQ⟩ : ∃ x, x = nq := ⟨_, rfl⟩
        subst hQQ
        obtain ⟨k0, k1, k2⟩ := HS1
        go_wp2_with fail
        go_quiet (fail)
        have bq := below_drewN (Below.refl w.heap.size w) (QQ + nq)
        have HSq := HS.drewN (QQ + nq)
        try rw [hB']
        obtain ⟨l0, l1, l2⟩ := HSq
        go_wp2
        go_ret
        show KindEnd s R p w (.returned (.int .i64 (K : Int))) _
        exact .inr (.inr ⟨hlt, H1.out, by rw [HKB.out], QQ + nq, by first | rfl | (rw [World.drewN_drewN])⟩)
end Go.Proofs.YtnaclpfcldoebaaGreatDoor
end

section
namespace Go.Proofs.YtnaclpfcldoebaaGreatDoor.Flow
open Go
section
variable {P : Program} {ops : Array Oper} {Q : Exit → Act → World → Prop} {Z : List PanicEntry → World → Prop}
/-- Each operation waits for earlier ones alone. -/
def lexG (ops : Array Oper) : Bool := (List.range ops.size).all fun i => match ops[i]? with
  | some o => o.guard.isNone && o.after.toList.all fun e => !Region.binds .any e || decide (e.on < i)
  | none => true
theorem lexG_of (h : lexG ops = true) {i : Nat} {o : Oper} (ho : ops[i]? = some o) : o.guard = none ∧ ∀ e ∈ o.after, Region.binds .any e = true → e.on < i := by
  have hi := (Array.getElem?_eq_some_iff.1 ho).1
  have := List.all_eq_true.1 h i (List.mem_range.2 hi)
  rw [ho] at this
  simp only [Bool.and_eq_true, Option.isNone_iff_eq_none] at this
  refine ⟨this.1, fun e he hb => ?_⟩
  have h2 := List.all_eq_true.1 this.2 e (by simpa using he)
  rw [hb] at h2
  simpa using h2
theorem allG_of_ready (hlex : lexG ops = true) {L : Array Bool} (hs : L.size = ops.size) (h : Region.ready .any ops L = []) (i : Nat) : i < ops.size → L.getD i false = true := by
  induction i using Nat.strongRecOn with
  | ind i ih =>
    intro hi
    rcases hb : L.getD i false with _ | _
    · exfalso
      have hm : i ∈ Region.ready .any ops L := mem_ready.2 ⟨by rw [getD_in (by omega) true false]; exact hb, ops[i], Array.getElem?_eq_getElem hi, fun e he hbe => ih e.on ((lexG_of hlex (Array.getElem?_eq_getElem hi)).2 e he hbe) (by have := (lexG_of hlex (Array.getElem?_eq_getElem hi)).2 e he hbe; omega)⟩
      rw [h] at hm
      cases hm
    · rfl
/-- What has come up is closed under what it waits for. -/
def Closed (ops : Array Oper) (L : Nat → Bool) : Prop := ∀ i o, ops[i]? = some o → L i = true → ∀ e ∈ o.after, Region.binds .any e = true → L e.on = true
/-- Operation i waits for j, at last. -/
def reach (ops : Array Oper) : Nat → Nat → Nat → Bool
  | 0, i, j => i == j
  | f + 1, i, j => i == j || match ops[i]? with
    | some o => o.after.toList.any fun e => Region.binds .any e && reach ops f e.on j
    | none => false
theorem Closed.reach {L : Nat → Bool} (h : Closed ops L) : ∀ (f i j : Nat), reach ops f i j = true → L i = true → L j = true := by
  intro f
  induction f with
  | zero => intro i j hr hl; rw [beq_iff_eq.1 hr] at hl; exact hl
  | succ f ih =>
    intro i j hr hl
    unfold Flow.reach at hr
    rcases Bool.or_eq_true_iff.1 hr with hr | hr
    · rw [beq_iff_eq.1 hr] at hl; exact hl
    · cases ho : ops[i]? with
      | none => rw [ho] at hr; cases hr
      | some o =>
        rw [ho] at hr
        simp only [List.any_eq_true, Bool.and_eq_true] at hr
        obtain ⟨e, he, hb, hr⟩ := hr
        exact ih _ _ hr (h i o ho hl e (by simpa using he) hb)
def Step4 {G : Type} (P : Program) (ops : Array Oper) (a0 : Act) (v : G → Nat → Value) (C : G → (Nat → Bool) → World → Prop) (Z : List PanicEntry → World → Prop) (i : Nat) (o : Oper) : Prop :=
  ∀ (g : G) (L : Nat → Bool) (w : World) (K : Value → World → Prop) (ρ : Operand → Value),
    (∀ x, ρ (.const x) = x) → (∀ f, ρ (.func f) = .func (.func f) #[] #[]) → (∀ t j, who ops t = some j → L j = true → ρ (.tmp t) = v g j) → (∀ t, who ops t = none → ρ (.tmp t) = a0.eval (.tmp t)) →
    (∀ t j, who ops t = some j → L j = false → ρ (.tmp t) = a0.eval (.tmp t)) →
    (∀ i j, reach ops ops.size i j = true → L i = true → L j = true) →
    L i = false → (∀ e ∈ o.after, Region.binds .any e = true → L e.on = true) → C g L w →
    (∀ g' w', C g' (fun j => j == i || L j) w' → (∀ j, L j = true → v g' j = v g j) → K (v g' i) w') → YlP P Z K ((execOp ρ o).run P w)
theorem wp_region_go {G : Type} {id : Nat} {l : List Oper} {a0 : Act} {w0 : World} (hm : P.follows .mixedOrders = true) (hlex : lexG l.toArray = true) (hok : okB l.toArray = true) (n : Nat) (hn : a0.tmps.size = n) (hfit : fitB l.toArray n = true)
    (v : G → Nat → Value) (C : G → (Nat → Bool) → World → Prop) (Z : List PanicEntry → World → Prop) (g0 : G) (h0 : C g0 (fun _ => false) w0.drew)
    (hstep : Steps (Step4 P l.toArray a0 v C Z) 0 l) (hthrow : ∀ g L ch w, Z ch w → Q (.panic ch) (frame l.toArray a0 (v g) L) w)
    (hdone : ∀ g L w, (∀ i, i < l.length → L i = true) → C g L w → Q .normal (putAll (v g) 0 l a0) w) :
    (Code.region id l.toArray true).wp P Q a0 w0 := by
  refine wp_region_any hm ?_
  refine wpAny_inv (fun L a w => ∃ g, a = frame l.toArray a0 (v g) (fun i => L.getD i false) ∧ Closed l.toArray (fun i => L.getD i false) ∧ C g (fun i => L.getD i false) w) ?_ ?_ _ _ _ _ (by simp) ?_ ?_
  · rintro L a w i o hs ⟨g, rfl, hcl, hC⟩ ho hi hd
    have hst := hstep.at_ (i := i) (o := o) (by simpa using ho)
    rw [Nat.zero_add] at hst
    have hin : i < L.size := by rw [hs]; exact (Array.getElem?_eq_some_iff.1 ho).1
    have hi' : L.getD i false = false := by rw [getD_in hin false true]; exact hi
    have hfun : (fun j => (L.setIfInBounds i true).getD j false) = fun j => j == i || L.getD j false := by
      funext j
      by_cases hj : j = i
      · subst hj
        simp [Array.getD, hin]
      · have hb : (j == i) = false := by simpa using hj
        rw [hb, Bool.false_or]
        simp only [Array.getD_eq_getD_getElem?, Array.getElem?_setIfInBounds]
        rw [if_neg (fun e => hj e.symm)]
    unfold wpOp
    rw [ho]
    simp only
    rw [if_pos (by simp [Region.wanted, (lexG_of hlex ho).1])]
    refine .inl (YlP.upon (hst g _ w (fun u w' => ∃ g', u = v g' i ∧ C g' (fun j => j == i || L.getD j false) w' ∧ ∀ j, L.getD j false = true → v g' j = v g j) _ (fun _ => rfl) (fun _ => rfl) (fun t j h1 h2 => frame_dst h1 (by rw [hn]; exact fit_of hfit h1) h2) (fun t h1 => frame_old h1) (fun t j h1 h2 => frame_not h1 h2) (fun i j => hcl.reach _ i j) hi' hd hC (fun g' w' h1 h2 => ⟨g', rfl, h1, h2⟩)) ?_ (fun ch w' hz => hthrow g _ ch w' hz))
    rintro u w' ⟨g', rfl, hC', hv⟩
    refine ⟨g', ?_, ?_, ?_⟩
    · rw [hfun]; exact frame_put hok ho hv
    · rw [hfun]
      intro j oj hoj hlj e he hb
      simp only [Bool.or_eq_true, beq_iff_eq] at hlj ⊢
      rcases hlj with rfl | hlj
      · rw [ho] at hoj
        injection hoj with hoj
        subst hoj
        exact .inr (hd e he hb)
      · exact .inr (hcl j oj hoj hlj e he hb)
    · rw [hfun]; exact hC'
  · rintro L a w hs ⟨g, rfl, _, hC⟩ hr
    have hall := allG_of_ready hlex hs hr
    rw [frame_all hall, putAll_all hok]
    exact hdone g _ w (fun i hi => hall i (by simpa using hi)) hC
  · have hz : (fun i => (Array.replicate l.toArray.size false).getD i false) = fun _ => false := by
      funext i
      simp [Array.getD]
    refine ⟨g0, ?_, ?_, ?_⟩
    · rw [hz, frame_none]
    · rw [hz]; intro i o _ h; cases h
    · rw [hz]; exact h0
  · unfold left
    simp only [Array.toList_replicate]
    exact Nat.le_trans List.countP_le_length (by simp)
end
end Go.Proofs.YtnaclpfcldoebaaGreatDoor.Flow
end

section
namespace Go.Proofs.YtnaclpfcldoebaaGreatDoor
set_option linter.unusedSimpArgs false
set_option linter.unusedVariables false
open Go.RowKit As
def rvV (R : Nat) (s : ByteArray) (p n : Nat) (e : Int) (g : Value) : Nat → Value
  | 0 => .pointer (some ⟨R, 0, none⟩)
  | 1 => .pointer (some ⟨R, 0, none⟩)
  | 2 => .pointer (some ⟨R, 0, none⟩)
  | 3 => .string s
  | 4 => .pointer (some ⟨R, 0, none⟩)
  | 5 => .pointer (some ⟨R, 0, none⟩)
  | 6 => .pointer (some ⟨R, 1, none⟩)
  | 7 => .int .i64 (p : Int)
  | 8 => .string (s.extract p s.size)
  | 9 => .tuple #[g, .int .i64 (n : Int), errV e]
  | 10 => .tuple #[g, .int .i64 (n : Int), errV e]
  | 11 => g
  | 12 => .int .i64 (n : Int)
  | 13 => errV e
  | 14 => g
  | 15 => .int .i64 (n : Int)
  | 16 => errV e
  | _ => undef
/-- Where vector ends. -/
def VectorEnd (s : ByteArray) (R p : Nat) (w : World) (r : Ending) (w' : World) : Prop :=
  ∃ (l : List Ent) (n : Nat) (e : Int), vread (s.extract p s.size) = (l, n, e) ∧
    (e = 0 ∧ p + n ≤ s.size ∧ (∃ v w1, r = .returned v ∧ w1.ownsRow w.heap.size 62 2 v l.length (entV l) ∧ Below w.heap.size w w1 ∧ w' = w1.setCell ⟨R, 1, none⟩ (.int .i64 ((p + n : Nat) : Int))) ∨
     e ≠ 0 ∧ r = .panicked (Faulted e p) ∧ Below w.heap.size w w')
set_option maxHeartbeats 1000000 in
set_option maxRecDepth 100000 in
theorem vector_any (s : ByteArray) (p R : Nat) (w : World) (hs : s.size ≤ 1000000) (hp : p ≤ s.size) (hg : Handle w) (h : Sc w R s p) :
    Calls Tryz.prog 22 #[.pointer (some ⟨R, 0, none⟩)] w fun r w' => VectorEnd s R p w r w' := by
  have HS := h
  obtain ⟨c0, c1, f1⟩ := h
  obtain ⟨⟨l, n, e⟩, hv⟩ : ∃ x, vread (s.extract p s.size) = x := ⟨_, rfl⟩
  have hl : (s.extract p s.size).size ≤ 1000000 := by rw [ByteArray.size_extract]; omega
  have hn : p + n ≤ s.size := by
    have h2 := vread_far (s.extract p s.size)
    rw [hv, ByteArray.size_extract] at h2
    simp only at h2
    omega
  have HV := Lib.hid hv
  have i1 : (0 : Int) ≤ (p : Int) := by omega
  have i2 : (p : Int) ≤ (s.size : Int) := by omega
  clear hv
  go_enter Tryz.func22, Tryz.ntmps22
  go_wp2_with fail
  refine Flow.wp_region_go (by kernel_rfl) (by kernel_rfl) (by kernel_rfl) 32 rfl (by kernel_rfl) (rvV R s p n e) (fun g L wz => Below w.heap.size w wz ∧ (L 9 = true → wz.ownsRow w.heap.size 62 2 g l.length (entV l))) (fun _ _ => False) (undef) (⟨(Below.refl _ _).drew, fun h => by cases h⟩) ⟨?_, ?_, ?_, ?_, ?_, ?_, ?_, ?_, ?_, ?_, ?_, ?_, ?_, ?_, ?_, ?_, ?_, trivial⟩ ?_ ?_
  · intro g L wz K ρ hc0 hf0 hF hO hU hcl hi hd hC hK
    have e0 : ρ (.tmp 0) = .pointer (some ⟨R, 0, none⟩) := hO 0 (by kernel_rfl)
    simp [go_sem, Flow.ylP_value, Flow.ylP_skip, Flow.ylP_enter, Flow.ylP_panic, hc0, hf0, e0]
    exact hK g wz hC (fun _ _ => rfl)
  · intro g L wz K ρ hc0 hf0 hF hO hU hcl hi hd hC hK
    have d0 : L 0 = true := hd ⟨0, .data⟩ (by simp) rfl
    have e7 : ρ (.tmp 7) = .pointer (some ⟨R, 0, none⟩) := hF 7 0 (by kernel_rfl) d0
    simp [go_sem, Flow.ylP_value, Flow.ylP_skip, Flow.ylP_enter, Flow.ylP_panic, hc0, hf0, e7]
    exact hK g wz hC (fun _ _ => rfl)
  · intro g L wz K ρ hc0 hf0 hF hO hU hcl hi hd hC hK
    have d1 : L 1 = true := hd ⟨1, .data⟩ (by simp) rfl
    have e8 : ρ (.tmp 8) = .pointer (some ⟨R, 0, none⟩) := hF 8 1 (by kernel_rfl) d1
    simp [go_sem, Flow.ylP_value, Flow.ylP_skip, Flow.ylP_enter, Flow.ylP_panic, hc0, hf0, e8]
    exact hK g wz hC (fun _ _ => rfl)
  · intro g L wz K ρ hc0 hf0 hF hO hU hcl hi hd hC hK
    have d2 : L 2 = true := hd ⟨2, .data⟩ (by simp) rfl
    have e9 : ρ (.tmp 9) = .pointer (some ⟨R, 0, none⟩) := hF 9 2 (by kernel_rfl) d2
    have cc := (hC.1.cell (cell_lt c0)).trans c0
    simp [go_sem, Flow.ylP_value, Flow.ylP_skip, Flow.ylP_enter, Flow.ylP_panic, hc0, hf0, e9, cc]
    exact hK g wz hC (fun _ _ => rfl)
  · intro g L wz K ρ hc0 hf0 hF hO hU hcl hi hd hC hK
    have e0 : ρ (.tmp 0) = .pointer (some ⟨R, 0, none⟩) := hO 0 (by kernel_rfl)
    simp [go_sem, Flow.ylP_value, Flow.ylP_skip, Flow.ylP_enter, Flow.ylP_panic, hc0, hf0, e0]
    exact hK g wz hC (fun _ _ => rfl)
  · intro g L wz K ρ hc0 hf0 hF hO hU hcl hi hd hC hK
    have d4 : L 4 = true := hd ⟨4, .data⟩ (by simp) rfl
    have e11 : ρ (.tmp 11) = .pointer (some ⟨R, 0, none⟩) := hF 11 4 (by kernel_rfl) d4
    simp [go_sem, Flow.ylP_value, Flow.ylP_skip, Flow.ylP_enter, Flow.ylP_panic, hc0, hf0, e11]
    exact hK g wz hC (fun _ _ => rfl)
  · intro g L wz K ρ hc0 hf0 hF hO hU hcl hi hd hC hK
    have d5 : L 5 = true := hd ⟨5, .data⟩ (by simp) rfl
    have e12 : ρ (.tmp 12) = .pointer (some ⟨R, 0, none⟩) := hF 12 5 (by kernel_rfl) d5
    simp [go_sem, Flow.ylP_value, Flow.ylP_skip, Flow.ylP_enter, Flow.ylP_panic, hc0, hf0, e12]
    exact hK g wz hC (fun _ _ => rfl)
  · intro g L wz K ρ hc0 hf0 hF hO hU hcl hi hd hC hK
    have d6 : L 6 = true := hd ⟨6, .data⟩ (by simp) rfl
    have e13 : ρ (.tmp 13) = .pointer (some ⟨R, 1, none⟩) := hF 13 6 (by kernel_rfl) d6
    have cc := (hC.1.cell (cell_lt c1)).trans c1
    simp [go_sem, Flow.ylP_value, Flow.ylP_skip, Flow.ylP_enter, Flow.ylP_panic, hc0, hf0, e13, cc]
    exact hK g wz hC (fun _ _ => rfl)
  · intro g L wz K ρ hc0 hf0 hF hO hU hcl hi hd hC hK
    have d3 : L 3 = true := hd ⟨3, .data⟩ (by simp) rfl
    have e10 : ρ (.tmp 10) = .string s := hF 10 3 (by kernel_rfl) d3
    have d7 : L 7 = true := hd ⟨7, .data⟩ (by simp) rfl
    have e14 : ρ (.tmp 14) = .int .i64 (p : Int) := hF 14 7 (by kernel_rfl) d7
    simp [go_sem, Flow.ylP_value, Flow.ylP_skip, Flow.ylP_enter, Flow.ylP_panic, hc0, hf0, e10, e14, i1, i2]
    exact hK g wz hC (fun _ _ => rfl)
  · intro g L wz K ρ hc0 hf0 hF hO hU hcl hi hd hC hK
    have d8 : L 8 = true := hd ⟨8, .data⟩ (by simp) rfl
    have e15 : ρ (.tmp 15) = .string (s.extract p s.size) := hF 15 8 (by kernel_rfl) d8
    simp [go_sem, Flow.ylP_value, Flow.ylP_skip, Flow.ylP_enter, Flow.ylP_panic, hc0, hf0, e15]
    refine (vecread_any (s.extract p s.size) wz hl (hg.below hC.1)).mono ?_
    rintro r wn ⟨v1, rfl, hT, hbn⟩
    rw [HV.out] at hT ⊢
    exact ⟨_, rfl, hK v1 wn ⟨hC.1.trans (hbn.mono hC.1.size), fun _ => own_less hT hC.1.size⟩ (by intro j hj; unfold rvV; split <;> first | rfl | (rw [hi] at hj; cases hj) | (have hz := hcl _ 9 (by kernel_rfl) hj; rw [hi] at hz; cases hz))⟩
  · intro g L wz K ρ hc0 hf0 hF hO hU hcl hi hd hC hK
    have d9 : L 9 = true := hd ⟨9, .data⟩ (by simp) rfl
    have e16 : ρ (.tmp 16) = .tuple #[g, .int .i64 (n : Int), errV e] := hF 16 9 (by kernel_rfl) d9
    simp [go_sem, Flow.ylP_value, Flow.ylP_skip, Flow.ylP_enter, Flow.ylP_panic, hc0, hf0, e16]
    exact hK g wz hC (fun _ _ => rfl)
  · intro g L wz K ρ hc0 hf0 hF hO hU hcl hi hd hC hK
    have d10 : L 10 = true := hd ⟨10, .data⟩ (by simp) rfl
    have e6 : ρ (.tmp 6) = .tuple #[g, .int .i64 (n : Int), errV e] := hF 6 10 (by kernel_rfl) d10
    simp [go_sem, Flow.ylP_value, Flow.ylP_skip, Flow.ylP_enter, Flow.ylP_panic, hc0, hf0, e6]
    exact hK g wz hC (fun _ _ => rfl)
  · intro g L wz K ρ hc0 hf0 hF hO hU hcl hi hd hC hK
    have d10 : L 10 = true := hd ⟨10, .data⟩ (by simp) rfl
    have e6 : ρ (.tmp 6) = .tuple #[g, .int .i64 (n : Int), errV e] := hF 6 10 (by kernel_rfl) d10
    simp [go_sem, Flow.ylP_value, Flow.ylP_skip, Flow.ylP_enter, Flow.ylP_panic, hc0, hf0, e6]
    exact hK g wz hC (fun _ _ => rfl)
  · intro g L wz K ρ hc0 hf0 hF hO hU hcl hi hd hC hK
    have d10 : L 10 = true := hd ⟨10, .data⟩ (by simp) rfl
    have e6 : ρ (.tmp 6) = .tuple #[g, .int .i64 (n : Int), errV e] := hF 6 10 (by kernel_rfl) d10
    simp [go_sem, Flow.ylP_value, Flow.ylP_skip, Flow.ylP_enter, Flow.ylP_panic, hc0, hf0, e6]
    exact hK g wz hC (fun _ _ => rfl)
  · intro g L wz K ρ hc0 hf0 hF hO hU hcl hi hd hC hK
    have d11 : L 11 = true := hd ⟨11, .data⟩ (by simp) rfl
    have e17 : ρ (.tmp 17) = g := hF 17 11 (by kernel_rfl) d11
    simp [go_sem, Flow.ylP_value, Flow.ylP_skip, Flow.ylP_enter, Flow.ylP_panic, hc0, hf0, e17]
    exact hK g wz hC (fun _ _ => rfl)
  · intro g L wz K ρ hc0 hf0 hF hO hU hcl hi hd hC hK
    have d12 : L 12 = true := hd ⟨12, .data⟩ (by simp) rfl
    have e18 : ρ (.tmp 18) = .int .i64 (n : Int) := hF 18 12 (by kernel_rfl) d12
    simp [go_sem, Flow.ylP_value, Flow.ylP_skip, Flow.ylP_enter, Flow.ylP_panic, hc0, hf0, e18]
    exact hK g wz hC (fun _ _ => rfl)
  · intro g L wz K ρ hc0 hf0 hF hO hU hcl hi hd hC hK
    have d13 : L 13 = true := hd ⟨13, .data⟩ (by simp) rfl
    have e19 : ρ (.tmp 19) = errV e := hF 19 13 (by kernel_rfl) d13
    simp [go_sem, Flow.ylP_value, Flow.ylP_skip, Flow.ylP_enter, Flow.ylP_panic, hc0, hf0, e19]
    exact hK g wz hC (fun _ _ => rfl)
  · intro g L ch wz h; exact h.elim
  · intro g L wz hL hC
    have hb := hC.1
    have hT := hC.2 (hL 9 (by decide))
    clear hL hC
    simp only [Flow.putAll, rvV]
    have HSz := HS.below hb
    have gz := hg.below hb
    by_cases he : e = 0
    · subst he
      have w1 : IntKind.i64.wrap ((p : Int) + (n : Int)) = ((p + n : Nat) : Int) := IntWalk.i64_in _ (by omega)
      have HSk := HSz
      obtain ⟨k0, k1, k2⟩ := HSz
      rw [errV_zero]
      go_wp2_with fail
      refine (check_nil R _).mono ?_
      rintro r w' ⟨rfl, rfl⟩
      go_wp2
      go_ret
      exact ⟨l, n, 0, HV.out, .inl ⟨rfl, hn, g, wz, rfl, hT, hb, by rw [show ((p : Int) + (n : Int)) = ((p + n : Nat) : Int) by omega]⟩⟩
    · have HE := Lib.hid he
      go_wp2_with fail
      refine (check_err (errV_is _ e) he gz HSz).mono ?_
      rintro r w' ⟨rfl, hb2⟩
      go_wp2
      exact ⟨rfl, l, n, e, HV.out, .inr ⟨HE.out, rfl, hb.trans (hb2.mono hb.size)⟩⟩
end Go.Proofs.YtnaclpfcldoebaaGreatDoor
end
