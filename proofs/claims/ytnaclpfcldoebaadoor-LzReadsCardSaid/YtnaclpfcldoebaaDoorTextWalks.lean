/- match.Text makes what ttext says. -/
import Derived.Test.YtnaclpfcldoebaaDoorTextRight
import Derived.Test.YtnaclpfcldoebaaDoorVaryPut
import Derived.Test.YtnaclpfcldoebaaDoorSpanLaw
import Derived.Lib.AppendStr
namespace Go.Proofs.YtnaclpfcldoebaaDoor
open Go.RowKit As
theorem strCells_bytes (s : ByteArray) : Lib.strCells s = bytesV s.data.toList := rfl
theorem size_len (s : ByteArray) : s.data.toList.length = s.size := by simp
theorem own_some' {w : World} {B : Nat} {e : TypeId} {size : Nat} {v : Value} {n : Nat} {xs : List Value} (h : w.ownsRow B e size v n xs) (hn : 0 < n) : ∃ g c, v = .slice (some ⟨g, 0, none⟩) n c ∧ B ≤ g ∧ g < w.heap.size := by
  rcases h.2 with ⟨_, h0⟩ | ⟨g, cap, cur, hv, hb, hh, _⟩
  · omega
  · exact ⟨g, cap, hv, hb, (Array.getElem?_eq_some_iff.1 hh).1⟩
/-- The text so far, ahead of token k. -/
def tsofar (l : List Tok) (k : Nat) : List UInt8 := (l.take k).foldl tstep []
theorem tsofar_succ {l : List Tok} {k : Nat} {t : Tok} (h : l[k]? = some t) : tsofar l (k + 1) = tstep (tsofar l k) t := by
  obtain ⟨hk, e⟩ := List.getElem?_eq_some_iff.1 h
  unfold tsofar
  rw [List.take_succ_eq_append_getElem hk, e, List.foldl_append]; rfl
theorem tok_own {l : List Tok} {k n : Nat} {t : Tok} (h : TOk (l.drop k) n) (hx : l[k]? = some t) (h1 : t.1.size ≠ 0) : t.2.1 = 0 ∧ t.2.2 = 0 ∧ n + t.1.size ≤ 20000 ∧ TOk (l.drop (k + 1)) (n + t.1.size) := by
  rw [tdrop hx] at h
  rcases h with ⟨_, a, b, c, d⟩ | ⟨a, _⟩
  · exact ⟨a, b, c, d⟩
  · exact absurd a h1
theorem tok_rep {l : List Tok} {k n : Nat} {t : Tok} (h : TOk (l.drop k) n) (hx : l[k]? = some t) (h1 : t.1.size = 0) : 4 ≤ t.2.2 ∧ t.2.2 ≤ 67 ∧ 1 ≤ t.2.1 ∧ t.2.1 ≤ (n : Int) ∧ n + t.2.2.toNat ≤ 20000 ∧ TOk (l.drop (k + 1)) (n + t.2.2.toNat) := by
  rw [tdrop hx] at h
  rcases h with ⟨a, _⟩ | ⟨_, a, b, c, _, d, e, f⟩
  · exact absurd h1 a
  · exact ⟨a, b, c, d, e, f⟩
theorem TOk.le {l : List Tok} {n : Nat} (h : TOk l n) : n ≤ 20000 := by
  cases l with
  | nil => exact h
  | cons t l => rcases h with ⟨_, _, _, a, _⟩ | ⟨_, _, _, _, _, _, a, _⟩ <;> omega
theorem own_len {w : World} {base : Nat} {E : TypeId} {v : Value} {n m : Nat} {l l' : List UInt8} (h : w.ownsRow base E 1 v n (bytesV l)) (hn : n = m) (hl : l = l') : w.ownsRow base E 1 v m (bytesV l') := by subst hn hl; exact h
theorem bytesV_app (a b : List UInt8) : bytesV a ++ bytesV b = bytesV (a ++ b) := by simp [bytesV]
theorem blk_new (w : World) (o : Obj) : (w.alloc o).heap[w.heap.size]? = some o := by simp only [World.alloc, Array.getElem?_push_size]
theorem blk_lt {w : World} {B : Nat} {o : Obj} (h : w.heap[B]? = some o) : B < w.heap.size := (Array.getElem?_eq_some_iff.1 h).1
theorem blk_below {w w' : World} {B : Nat} {o : Obj} (h : w.heap[B]? = some o) (hb : Below w.heap.size w w') : w'.heap[B]? = some o := (hb.block B (blk_lt h)).trans h
theorem blk_kept {w w' : World} {B base : Nat} {cs : Array Value} {t e : TypeId} {fz : Nat × Nat} {size n : Nat} {v : Value} {xs : List Value} (h : w.heap[B]? = some (.cells cs t fz)) (hT : w.ownsRow base e size v n xs) (hne : t ≠ e) (hg : w.grownBy w' v.ownBlock) : w'.heap[B]? = some (.cells cs t fz) := by
  refine (hg.block B (blk_lt h) fun e0 => ?_).trans h
  rcases hT.2 with ⟨rfl, _⟩ | ⟨g, cap, cur, rfl, _, hh, _⟩
  · simp [Value.ownBlock] at e0
  · simp only [Value.ownBlock, Option.some.injEq] at e0
    subst e0
    rw [hh] at h
    injection h with h
    injection h with _ h2
    exact hne h2.symm
theorem blk_cell {w : World} {B j : Nat} {cs : Array Value} {t : TypeId} {fz : Nat × Nat} {u : Value} (h : w.heap[B]? = some (.cells cs t fz)) (hu : cs[j]? = some u) : w.cell? ⟨B, j, none⟩ = some u := by
  simp only [World.cell?, h]; exact hu
theorem string_ownV {P : Program} {w : World} {base : Nat} {E : TypeId} {v : Value} {l : List UInt8} (src e dst : TypeId) (hs : P.underlying src = some (.slice e)) (he : P.underlying e = some (.int .u8)) (hd : P.underlying dst = some .string)
    (h : w.ownsRow base E 1 v l.length (bytesV l)) : (convert src dst v).run P w = .ok (.string ⟨l.toArray⟩) w := by
  rcases h.2 with ⟨rfl, h0⟩ | ⟨g, cap, cur, rfl, _, hh, _⟩
  · obtain rfl : l = [] := List.length_eq_zero_iff.1 h0
    exact run_convert_bytes_nil w src e hs he 0 0 dst hd
  · refine string_of w src e dst g cap l hs he hd fun i hi => ⟨?_, h.frozenAt i⟩
    rw [h.cellAt i (by omega), List.getElem?_map, List.getElem?_eq_getElem hi, getD_at l 0 i hi]
    rfl
set_option maxHeartbeats 2000000 in
set_option maxRecDepth 100000 in
theorem text_any (w : World) (n c : Nat) (A : Option Addr) (l : List Tok) (hl : Toks w w.heap.size A n l) (hn : n ≤ maxLen) :
    Calls Tryd.prog 47 #[.slice A n c] w fun e w' => ∃ v, e = .returned (.tuple #[.string (textOf l).1, v]) ∧ ErrOf w' v (textOf l).2 ∧ Below w.heap.size w w' := by
  obtain ⟨i0, hi, hz0, hz1, hz2⟩ := info_parts byteInfo
  have hlen := Lib.hid hl.len
  by_cases hbad : (tright l).1 ≠ 0
  · have HB := Lib.hid hbad
    clear hbad
    go_enter Tryd.func47, Tryd.ntmps47
    go_wp2_with fail
    refine (tright_any w n c A l hl hn).mono ?_
    rintro e w1 ⟨v, rfl, hv, hb⟩
    unfold ErrOf at hv
    have hR := Lib.hid (text_bad HB.out)
    have hbad := HB.out
    generalize hF : tright l = f at *
    obtain ⟨e1, p1⟩ := f
    simp only at hv hbad
    have HV := Lib.hid hv
    clear hF
    cases hv with
    | none => exact absurd rfl hbad
    | bare _ he =>
      clear hbad he
      go_wp2
      go_ret2
      rw [hR.out]
      exact ⟨_, rfl, HV.out, hb⟩
    | at_ b o _ _ he h0 h1 =>
      clear hbad he h0 h1
      go_wp2
      go_ret2
      rw [hR.out]
      exact ⟨_, rfl, HV.out, hb⟩
  · have h0 : (tright l).1 = 0 := by omega
    have hok := Lib.hid (tright_ok h0)
    have hpl := tright_place h0
    have hR := Lib.hid (text_good h0)
    have hP := Lib.hid hpl
    clear hbad h0 hpl
    unfold maxLen at hn
    go_enter Tryd.func47, Tryd.ntmps47
    go_wp2_with fail
    refine (tright_any w n c A l hl hn).mono ?_
    rintro e w1 ⟨v, rfl, hv, hb⟩
    rw [hP.out] at hv
    obtain ⟨rfl, _⟩ := ErrIs.zero hv
    have hl1 := hl.grow hb
    clear hv
    go_wp2
    go_loopw [5, 7, 15] (fun v _ i wr => ∃ k : Nat, k ≤ n ∧ i = .int .i64 k ∧ TOk (l.drop k) (tsofar l k).length ∧ wr.ownsRow w1.heap.size 5 1 v (tsofar l k).length (bytesV (tsofar l k)) ∧ Below w1.heap.size w1 wr) (fun _ _ i _ => n - (intOf i).toNat)
    case atStart => exact ⟨0, by omega, rfl, hok.out, World.ownsRow_nil _ _ _ _, Below.refl _ _⟩
    case round =>
      obtain ⟨k, hk, rfl, hto, hT, hbel⟩ := hrel
      have hB := hbel.size
      by_cases hlt : k < n
      · obtain ⟨b, o, s, r, t, rfl, hb', hx, hf, c0, c1, c2⟩ := hl1.at_ hlt
        have c0 := (hbel.cell (p := ⟨b, o + k * 3, none⟩) (by simp; omega)).trans c0
        have c1 := (hbel.cell (p := ⟨b, o + k * 3 + 1, none⟩) (by simp; omega)).trans c1
        have c2 := (hbel.cell (p := ⟨b, o + k * 3 + 2, none⟩) (by simp; omega)).trans c2
        have hsf := Lib.hid (tsofar_succ hx)
        by_cases h1 : s.size = 0
        · obtain ⟨q0, q1, q2, q3, q4, q5⟩ := tok_rep hto hx h1
          simp only at q0 q1 q2 q3 q4 q5
          have hst := Lib.hid (show tsofar l (k + 1) = rep (tsofar l k) r.toNat t.toNat by rw [hsf.out]; unfold tstep; rw [if_neg (by simpa using h1)])
          obtain ⟨z, rfl⟩ := Int.eq_ofNat_of_zero_le (show 0 ≤ t by omega)
          obtain ⟨y, rfl⟩ := Int.eq_ofNat_of_zero_le (show 0 ≤ r by omega)
          rw [Int.toNat_natCast, Int.toNat_natCast] at hst
          rw [Int.toNat_natCast] at q4 q5
          have Q5 := Lib.hid q5
          have X := Lib.hid hx
          have hs0 : s = ⟨#[]⟩ := by
            apply ByteArray.ext
            apply Array.eq_empty_of_size_eq_zero
            simpa using h1
          subst hs0
          have hlr := Lib.hid (rep_len (tsofar l k) y)
          have z0 : (⟨#[]⟩ : ByteArray).size = 0 := rfl
          clear hto hx hf h1 q5 hsf
          generalize hacc : tsofar l k = acc at *
          have HA := Lib.hid hacc
          clear hacc
          go_wp2_with (first
            | (at_builtin; refine Lib.wpList_append_own_string _ rfl (.tmp 19) (.tmp 21) 116 9 rfl w1.heap.size 5 i0 Tryd.underlying116 Tryd.underlying9 hi hz0 hz1 hz2 u5 acc.length (bytesV acc) rfl (hT.alloc _) ⟨#[]⟩ rfl (by unfold maxLen; omega) (by omega) (by simp; omega) ?_; intro v1 w2 hT1 hg1 _; have hb1 := grown_own (hbel.alloc hB _) hg1 (by simp; omega) (hT.alloc _); have hk1 := blk_kept (blk_new wr _) (hT.alloc _) (by decide) hg1; have d1 := blk_cell (j := 1) hk1 rfl; have d2 := blk_cell (j := 2) hk1 rfl))
          rw [strCells_bytes, bytesV_app] at hT1
          have hT2 : w2.ownsRow w1.heap.size 5 1 v1 (rep acc y 0).length (bytesV (rep acc y 0)) := own_len hT1 (by rw [z0]; rfl) (by simp [rep])
          clear hT1 hT
          have hB1 := hb1.size
          clear hg1 hbel c0 c1 c2 hB
          generalize hBB : wr.heap.size = B at *
          clear hBB wr
          go_loopw [5, 25] (fun v i wx => ∃ j : Nat, j ≤ z ∧ i = .int .i64 j ∧ wx.ownsRow w1.heap.size 5 1 v (rep acc y j).length (bytesV (rep acc y j)) ∧ wx.heap[B]? = some (.cells #[.string ⟨#[]⟩, .int .i64 y, .int .i64 z] 48 (0, 0)) ∧ Below w1.heap.size w1 wx) (fun _ i _ => z - (intOf i).toNat)
          case atStart => exact ⟨0, by omega, rfl, hT2, hk1, hb1⟩
          case round =>
            clear hT2 hk1 d1 d2 hb1
            obtain ⟨j, hj, rfl, hT, hk1, hb1⟩ := hrel
            have hB2 := hb1.size
            have d1 := blk_cell (j := 1) hk1 rfl
            have d2 := blk_cell (j := 2) hk1 rfl
            have hL := hlr.out j
            by_cases hlt2 : j < z
            · have hstep := Lib.hid (show rep acc y (j + 1) = rep acc y j ++ [(rep acc y j).getD ((rep acc y j).length - y) 0] from rfl)
              obtain ⟨x, hx⟩ : ∃ x, x = rep acc y j := ⟨_, rfl⟩
              rw [← hx] at hT hL
              have HX := Lib.hid hx
              clear hx
              obtain ⟨g, cp, rfl, hg0, hg1⟩ := own_some' hT (by omega)
              have hin : x.length - y < x.length := by omega
              have e0 : wr.cell? ⟨g, x.length - y, none⟩ = some (byteV (x.getD (x.length - y) 0)) := by
                rw [hT.cellAt _ (by omega), List.getElem?_map, List.getElem?_eq_getElem hin, getD_at _ _ _ hin]; rfl
              have hsub : (x.length : Int) - (y : Int) = ((x.length - y : Nat) : Int) := by omega
              have hlb : B < wr.heap.size := blk_lt hk1
              have hxl : y ≤ x.length := by omega
              have hx2 : x.length ≤ 20000 := by omega
              clear hL
              generalize hby : x.getD (x.length - y) 0 = by_ at *
              have HBY := Lib.hid hby
              clear hby
              go_wp2_with (first
                | (at_builtin; refine wpList_append_own _ rfl (.tmp 27) (.tmp 36) 116 rfl w1.heap.size 5 i0 (.int .u8 0) 1 1 Tryd.underlying116 hi hz0 hz1 hz2 rfl (by decide) _ x.length (bytesV x) rfl (hT.alloc _) ⟨wr.heap.size, 0, none⟩ 1 1 [byteV by_] rfl rfl (cells_new1 _ _ _) (by intro u hu; simp at hu; subst hu; rfl) (by unfold maxLen; omega) (by omega) (by simp; omega) ?_; intro v2 w3 hT3 hg3 _; have hb3 := grown_own (hb1.alloc hB2 _) hg3 (by simp; omega) (hT.alloc _); have hk3 := blk_kept (blk_below hk1 (below1 wr _)) (hT.alloc _) (by decide) hg3; have hT4 := own_snoc hT3))
              go_roundw
              case rel => exact ⟨j + 1, by omega, by go_num, own_len hT4 (by rw [hstep.out, ← HX.out, HBY.out]) (by rw [hstep.out, ← HX.out, HBY.out]), hk3, hb3⟩
              case measure => simp [intOf]; omega
            · obtain rfl : j = z := by omega
              go_wp2
              go_roundw
              case rel => exact ⟨k + 1, by omega, by go_num, by rw [hst.out, hL]; exact Q5.out, own_len hT (by rw [hst.out]) (by rw [hst.out]), hb1⟩
              case measure => simp [intOf]; omega
        · obtain ⟨q0, q1, q2, q3⟩ := tok_own hto hx h1
          simp only at q0 q1 q2 q3
          subst q0 q1
          have hst := Lib.hid (show tsofar l (k + 1) = tsofar l k ++ s.data.toList by rw [hsf.out]; unfold tstep; rw [if_pos h1])
          have Q3 := Lib.hid q3
          have X := Lib.hid hx
          clear hto hx hf h1 q3 hsf
          generalize hacc : tsofar l k = acc at *
          have HA := Lib.hid hacc
          clear hacc
          go_wp2_with (first
            | (at_builtin; refine Lib.wpList_append_own_string _ rfl (.tmp 19) (.tmp 21) 116 9 rfl w1.heap.size 5 i0 Tryd.underlying116 Tryd.underlying9 hi hz0 hz1 hz2 u5 acc.length (bytesV acc) rfl (hT.alloc _) s rfl (by unfold maxLen; omega) (by omega) (by simp; omega) ?_; intro v1 w2 hT1 hg1 _; have hb1 := grown_own (hbel.alloc hB _) hg1 (by simp; omega) (hT.alloc _); have hk1 := blk_kept (blk_new wr _) (hT.alloc _) (by decide) hg1; have d1 := blk_cell (j := 1) hk1 rfl; have d2 := blk_cell (j := 2) hk1 rfl))
          rw [strCells_bytes, bytesV_app] at hT1
          go_loopw [5, 25] (fun v i wx => v = v1 ∧ i = .int .i64 0 ∧ wx = w2) (fun _ i _ => 0 - (intOf i).toNat)
          case atStart => exact ⟨rfl, rfl, rfl⟩
          case round =>
            obtain ⟨rfl, rfl, rfl⟩ := hrel
            go_wp2
            go_roundw
            case rel => exact ⟨k + 1, by omega, by go_num, by rw [hst.out, List.length_append, size_len]; exact Q3.out, own_len hT1 (by rw [hst.out, List.length_append, size_len]) (by rw [hst.out]), hb1⟩
            case measure => simp [intOf]; omega
      · obtain rfl : k = n := by omega
        have hend := Lib.hid (show tsofar l k = ttext l by unfold tsofar ttext; rw [List.take_of_length_le (by rw [hlen.out]; exact Nat.le_refl _)])
        rw [hend.out] at hT
        have hs1 := string_ownV (P := Tryd.prog) 116 5 9 Tryd.underlying116 Tryd.underlying5 Tryd.underlying9 hT
        go_wp2
        go_ret2
        rw [hR.out]
        exact ⟨_, rfl, .none, hb.trans (hbel.mono hb.size)⟩
end Go.Proofs.YtnaclpfcldoebaaDoor
