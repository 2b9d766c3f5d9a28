/- sort.Search over the reference's question, whether a vector's entry is not below a replica. -/
import Derived.Test.YtglemfdnfaemiaaDoorZ12
section
namespace Go.Proofs.YtglemfdnfaemiaaDoor
open Go.RowKit As
abbrev bodyAsk (pb pw : Nat) : Value := .func (.func 123) #[] #[.pointer (some ⟨pb, 0, none⟩), .pointer (some ⟨pw, 0, none⟩)]
theorem ask_any (w : World) (n c k : Nat) (A : Option Addr) (l : List Ent) (x r t : Int) (pb pw : Nat) (hl : Ents w w.heap.size A n l) (hb : w.cell? ⟨pb, 1, none⟩ = some (.slice A n c)) (hw : w.cell? ⟨pw, 1, none⟩ = some (.int .i64 x)) (hx : l[k]? = some (r, t)) :
    Calls Tryd.prog 123 #[.int .i64 k, .pointer (some ⟨pb, 0, none⟩), .pointer (some ⟨pw, 0, none⟩)] w fun e w' => e = .returned (.bool (decide (x ≤ r))) ∧ ∃ q, w' = w.drewN q := by
  have hk : k < n := by have := (List.getElem?_eq_some_iff.1 hx).1; have := hl.len; omega
  obtain ⟨b, o, r', t', rfl, _, hx', _, c0, _⟩ := hl.at_ hk
  rw [hx] at hx'
  injection hx' with hx'
  injection hx' with e1 e2
  subst e1 e2
  go_enter Tryd.func123, Tryd.ntmps123
  go_wp2_with fail
  go_quiet (fail)
  go_wp2
  go_ret
  exact ⟨rfl, nq, rfl⟩
set_option maxHeartbeats 1000000 in
theorem search_any (w : World) (n c : Nat) (A : Option Addr) (l : List Ent) (x t : Int) (pb pw : Nat) (hl : Ents w w.heap.size A n l) (hn : n ≤ 16) (hb : w.cell? ⟨pb, 1, none⟩ = some (.slice A n c)) (hw : w.cell? ⟨pw, 1, none⟩ = some (.int .i64 x))
    (hm : (x, t) ∈ l) (hp : l.Pairwise (fun a b => a.1 < b.1)) :
    Calls Tryd.prog 122 #[.int .i64 n, bodyAsk pb pw] w fun e w' => e = .returned (.int .i64 (placeOf l x : Int)) ∧ ∃ q, w' = w.drewN q := by
  have hlen := Lib.hid hl.len
  have HM := Lib.hid hm
  have HP := Lib.hid hp
  clear hm hp
  go_enter Tryd.func122, Tryd.ntmps122
  go_wp2
  go_loopw [5, 6, 7] (fun iv jv _ wr => ∃ lo hi : Nat, lo ≤ hi ∧ hi ≤ n ∧ iv = .int .i64 lo ∧ jv = .int .i64 hi ∧ Hid (∀ (j : Nat) (y : Ent), j < lo → l[j]? = some y → y.1 < x) ∧ Hid (∀ (j : Nat) (y : Ent), hi ≤ j → l[j]? = some y → x ≤ y.1) ∧ ∃ q, wr = w.drewN q) (fun iv jv _ _ => (intOf jv).toNat - (intOf iv).toNat)
  case atStart => exact ⟨0, n, Nat.zero_le _, Nat.le_refl _, rfl, rfl, Lib.hid (fun j y hj => by omega), Lib.hid (fun j y hj hy => by have := (List.getElem?_eq_some_iff.1 hy).1; have := hlen.out; omega), 0, rfl⟩
  case round =>
    obtain ⟨lo, hi, h1, h2, rfl, rfl, ha, hz, q, rfl⟩ := hrel
    by_cases hlt : lo < hi
    · have d0 : decide ((lo : Int) < (hi : Int)) = true := by simp; omega
      have d1 : decide (lo < hi) = true := by simpa using hlt
      obtain ⟨mid, hmid, m1, m2⟩ : ∃ mid : Nat, ((lo : Int) + (hi : Int)) / 2 = (mid : Int) ∧ lo ≤ mid ∧ mid < hi := ⟨(lo + hi) / 2, by omega, by omega, by omega⟩
      have hml : mid < l.length := by have := hlen.out; omega
      obtain ⟨r, t', hx⟩ : ∃ r t', l[mid]? = some (r, t') := ⟨(l[mid]).1, (l[mid]).2, List.getElem?_eq_getElem hml⟩
      have hX := Lib.hid hx
      clear hx hml
      by_cases hge : x ≤ r
      · have b0 : decide (x ≤ r) = true := by simpa using hge
        have hz2 := Lib.hid (show ∀ (j : Nat) (y : Ent), mid ≤ j → l[j]? = some y → x ≤ y.1 by
          intro j y hj hy
          rcases Nat.eq_or_lt_of_le hj with h | h
          · subst h; rw [hX.out] at hy; injection hy with hy; subst hy; exact hge
          · have hpp := HP.out
            rw [List.pairwise_iff_getElem] at hpp
            obtain ⟨k1, e1⟩ := List.getElem?_eq_some_iff.1 hX.out
            obtain ⟨k2, e2⟩ := List.getElem?_eq_some_iff.1 hy
            have := hpp mid j k1 k2 h
            rw [e1, e2] at this
            simp only at this
            omega)
        clear hge
        go_wp2_with fail
        refine (ask_any (w.drewN q) n c mid A l x r t' pb pw hl hb hw hX.out).mono ?_
        rintro e w' ⟨rfl, q2, rfl⟩
        rw [b0]
        go_wp2
        go_roundw
        case rel => exact ⟨lo, mid, m1, by omega, rfl, rfl, ha, hz2, q + q2, by first | rfl | rw [World.drewN_drewN]⟩
        case measure => simp [intOf]; omega
      · have b0 : decide (x ≤ r) = false := by simpa using hge
        have ha2 := Lib.hid (show ∀ (j : Nat) (y : Ent), j < mid + 1 → l[j]? = some y → y.1 < x by
          intro j y hj hy
          rcases Nat.eq_or_lt_of_le (Nat.le_of_lt_succ hj) with h | h
          · subst h; rw [hX.out] at hy; injection hy with hy; subst hy; simp only; omega
          · have hpp := HP.out
            rw [List.pairwise_iff_getElem] at hpp
            obtain ⟨k1, e1⟩ := List.getElem?_eq_some_iff.1 hX.out
            obtain ⟨k2, e2⟩ := List.getElem?_eq_some_iff.1 hy
            have := hpp j mid k2 k1 h
            rw [e1, e2] at this
            simp only at this
            omega)
        clear hge
        go_wp2_with fail
        refine (ask_any (w.drewN q) n c mid A l x r t' pb pw hl hb hw hX.out).mono ?_
        rintro e w' ⟨rfl, q2, rfl⟩
        rw [b0]
        go_wp2
        go_roundw
        case rel => exact ⟨mid + 1, hi, by omega, h2, by go_num, rfl, ha2, hz, q + q2, by first | rfl | rw [World.drewN_drewN]⟩
        case measure => simp [intOf]; omega
    · obtain rfl : lo = hi := by omega
      have hv := Lib.hid (place_search HM.out HP.out ha.out hz.out)
      go_wp2_with fail
      go_ret
      exact ⟨retI (by rw [hv.out]), q, rfl⟩
end Go.Proofs.YtglemfdnfaemiaaDoor
end
