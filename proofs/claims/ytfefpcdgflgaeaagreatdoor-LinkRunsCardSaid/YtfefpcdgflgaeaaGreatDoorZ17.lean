/- The reference's link: Step, by kinds. Printed by gen_links.py.

How the arguments of a law are opened: slices of structs, strings and numbers, and structs by value, as lists and tuples of mine. Any program. -/
import Derived.Test.YtfefpcdgflgaeaaGreatDoorZ15
import Derived.Test.YtfefpcdgflgaeaaGreatDoorZ16
import Derived.Test.YtfefpcdgflgaeaaGreatDoorZ1
import Derived.ProofKit
import Derived.OpenShut
import Derived.Deep.Slices
import Derived.Deep.Fields
section
namespace Go.Proofs.YtfefpcdgflgaeaaGreatDoor
set_option linter.unusedSimpArgs false
set_option linter.unusedVariables false
open Go.RowKit As Go.Maps
set_option maxHeartbeats 1000000 in
set_option maxRecDepth 100000 in
theorem rstep2_any {w : World} {B K : Nat} {Q : LkC} {ps : List ByteArray} {x y : Lst} {G : Nat → Prop} (h : Lk w B K Q ps x y G) (N : Int) (m : Nat) (hE : K + 5 ≤ 1000000) : Calls Tryz.prog 26 #[.pointer (some ⟨Q.lr, 0, none⟩), .agg #[.int .i64 2, .int .i64 N, .int .u64 (m : Int)]] w fun e w' => e = .returned (.int .i64 0) ∧ LkTo w B (K + 5) Q ps x ⟨y.f, y.s.save.flush.mark.flush⟩ G w' := by
 have hS := St.start h (stVs 2 N m) 56
 simp only [stVs] at hS
 clear h
 go_enter Tryz.func26, Tryz.ntmps26
 iterate 5 go_step
 generalize w.alloc (.cells #[.int .i64 2, .int .i64 N, .int .u64 (m : Int)] 56) = w1 at *
 generalize w.heap.size = sb at *

 have c0 := (hS.lk.rc 0 _ rfl).1
 have k0 := (hS.rc 0 _ rfl).1
 go_wp2_with fail
 refine (both_rsave hS.lk.both (by omega)).mono ?_
 rintro e w2 ⟨rfl, hb, h2, ht⟩
 replace hS := hS.to hb h2 ht
 clear hb h2 ht c0 k0
 have c0 := (hS.lk.rc 0 _ rfl).1
 have k0 := (hS.rc 0 _ rfl).1
 go_wp2_with fail
 refine (both_rflush hS.lk.both (by omega)).mono ?_
 rintro e w2 ⟨rfl, hb, h2, ht⟩
 replace hS := hS.to hb h2 ht
 clear hb h2 ht c0 k0
 have c0 := (hS.lk.rc 0 _ rfl).1
 have k0 := (hS.rc 0 _ rfl).1
 go_wp2_with fail
 refine (both_rmark hS.lk.both (by omega)).mono ?_
 rintro e w2 ⟨rfl, hb, h2, ht⟩
 replace hS := hS.to hb h2 ht
 clear hb h2 ht c0 k0
 have c0 := (hS.lk.rc 0 _ rfl).1
 have k0 := (hS.rc 0 _ rfl).1
 go_wp2_with fail
 refine (both_rflush hS.lk.both (by omega)).mono ?_
 rintro e w2 ⟨rfl, hb, h2, ht⟩
 replace hS := hS.to hb h2 ht
 clear hb h2 ht c0 k0
 have c0 := (hS.lk.rc 0 _ rfl).1
 have k0 := (hS.rc 0 _ rfl).1
 go_wp2
 go_ret
 exact ⟨retI rfl, hS.done (by omega) hE⟩
set_option maxHeartbeats 1000000 in
set_option maxRecDepth 100000 in
theorem rstep4_any {w : World} {B K : Nat} {Q : LkC} {ps : List ByteArray} {x y : Lst} {G : Nat → Prop} (h : Lk w B K Q ps x y G) (N : Int) (m : Nat) (hE : K + 5 ≤ 1000000) : Calls Tryz.prog 26 #[.pointer (some ⟨Q.lr, 0, none⟩), .agg #[.int .i64 4, .int .i64 N, .int .u64 (m : Int)]] w fun e w' => e = .returned (.int .i64 0) ∧ LkTo w B (K + 5) Q ps x ⟨y.s.offer, y.s⟩ G w' := by
 have hS := St.start h (stVs 4 N m) 56
 simp only [stVs] at hS
 clear h
 go_enter Tryz.func26, Tryz.ntmps26
 iterate 5 go_step
 generalize w.alloc (.cells #[.int .i64 4, .int .i64 N, .int .u64 (m : Int)] 56) = w1 at *
 generalize w.heap.size = sb at *

 have c0 := (hS.lk.rc 0 _ rfl).1
 have k0 := (hS.rc 0 _ rfl).1
 have c3 := (hS.lk.rc 3 _ rfl).1
 have f3 := (hS.lk.rc 3 _ rfl).2
 have hS2 := hS.setr y.s.offer (offer_fit hS.lk.both).2
 go_wp2_with fail
 refine (both_roffer hS.lk.both).mono ?_
 rintro e w2 ⟨rfl, rfl⟩
 obtain ⟨q, hq⟩ : ∃ q, q = y.s.offer := ⟨_, rfl⟩
 rw [← hq] at hS2 ⊢
 have HQ := Lib.hid hq
 clear hq
 go_wp2
 go_ret
 refine ⟨retI rfl, ?_⟩
 rw [← HQ.out]
 exact hS2.done (by omega) hE
def rcrV (Q : LkC) (sb m v : Nat) (g : Unit) : Nat → Value
 | 0 => .pointer (some ⟨Q.lr, 0, none⟩)
 | 1 => .pointer (some ⟨Q.lr, 0, none⟩)
 | 2 => .pointer (some ⟨Q.lr, 0, none⟩)
 | 3 => .pointer (some ⟨Q.r, 0, none⟩)
 | 4 => .pointer (some ⟨sb, 2, none⟩)
 | 5 => .int .u64 (m : Int)
 | 6 => .int .i64 (v : Int)
 | _ => undef
set_option maxHeartbeats 1000000 in
set_option maxRecDepth 100000 in
theorem rstep30_any {w : World} {B K : Nat} {Q : LkC} {ps : List ByteArray} {x y : Lst} {G : Nat → Prop} (h : Lk w B K Q ps x y G) (N : Int) (m : Nat) (hm : m < 18446744073709551616) (hn : numOf N % 4 = 0) (hE : K + 5 ≤ 1000000) : Calls Tryz.prog 26 #[.pointer (some ⟨Q.lr, 0, none⟩), .agg #[.int .i64 3, .int .i64 N, .int .u64 (m : Int)]] w fun e w' => e = .returned (.int .i64 0) ∧ LkTo w B (K + 5) Q ps x ⟨y.f, (y.s).crash m⟩ G w' := by
 obtain ⟨M, hM⟩ : ∃ M, M = numOf N := ⟨_, rfl⟩
 have M1 : IntKind.u64.wrap N = (M : Int) := by rw [hM]; exact num_wrap N
 have M2 : Int.tmod (M : Int) 4 = 0 := by rw [Int.tmod_eq_emod_of_nonneg (by omega)]; omega
 have M3 : (M : Int) % 4 = 0 := by omega
 clear hM hn
 have hS := St.start h (stVs 3 N m) 56
 simp only [stVs] at hS
 clear h
 go_enter Tryz.func26, Tryz.ntmps26
 iterate 5 go_step
 generalize w.alloc (.cells #[.int .i64 3, .int .i64 N, .int .u64 (m : Int)] 56) = w1 at *
 generalize w.heap.size = sb at *

 have c0 := (hS.lk.rc 0 _ rfl).1
 have k0 := (hS.rc 0 _ rfl).1
 have k1 := (hS.rc 1 _ rfl).1
 go_wp2
 obtain ⟨v, hv⟩ : ∃ v, v = ((y.s).crash m).sf := ⟨_, rfl⟩
 have HV0 := Lib.hid hv.symm
 clear hv M1 M2 M3 c0 k0 k1
 refine Flow.wp_region_go (by kernel_rfl) (by kernel_rfl) (by kernel_rfl) 134 rfl (by kernel_rfl) (rcrV Q sb m v) (fun _ L wz => St w wz B (cond (L 6) (K + 1) (K)) Q ps x ⟨y.f, cond (L 6) ((y.s).crash m) (y.s)⟩ G sb [.int .i64 3, .int .i64 N, .int .u64 (m : Int)]) (fun _ _ => False) (()) (hS.below (Below.refl _ _).drew) ⟨?_, ?_, ?_, ?_, ?_, ?_, ?_, trivial⟩ ?_ ?_
 ·intro g L wz K ρ hc0 hf0 hF hO hU hcl hi hd hC hK
  have e0 : ρ (.tmp 0) = .pointer (some ⟨Q.lr, 0, none⟩) := hO 0 (by kernel_rfl)
  simp [go_sem, Flow.ylP_value, Flow.ylP_skip, Flow.ylP_enter, Flow.ylP_panic, hc0, hf0, e0]
  exact hK g wz hC (fun _ _ => rfl)
 ·intro g L wz K ρ hc0 hf0 hF hO hU hcl hi hd hC hK
  have d0 : L 0 = true := hd ⟨0, .data⟩ (by simp) rfl
  have e117 : ρ (.tmp 117) = .pointer (some ⟨Q.lr, 0, none⟩) := hF 117 0 (by kernel_rfl) d0
  simp [go_sem, Flow.ylP_value, Flow.ylP_skip, Flow.ylP_enter, Flow.ylP_panic, hc0, hf0, e117]
  exact hK g wz hC (fun _ _ => rfl)
 ·intro g L wz K ρ hc0 hf0 hF hO hU hcl hi hd hC hK
  have d1 : L 1 = true := hd ⟨1, .data⟩ (by simp) rfl
  have e118 : ρ (.tmp 118) = .pointer (some ⟨Q.lr, 0, none⟩) := hF 118 1 (by kernel_rfl) d1
  simp [go_sem, Flow.ylP_value, Flow.ylP_skip, Flow.ylP_enter, Flow.ylP_panic, hc0, hf0, e118]
  exact hK g wz hC (fun _ _ => rfl)
 ·intro g L wz K ρ hc0 hf0 hF hO hU hcl hi hd hC hK
  have d2 : L 2 = true := hd ⟨2, .data⟩ (by simp) rfl
  have e119 : ρ (.tmp 119) = .pointer (some ⟨Q.lr, 0, none⟩) := hF 119 2 (by kernel_rfl) d2
  have cc := (hC.lk.rc 0 _ rfl).1
  simp [go_sem, Flow.ylP_value, Flow.ylP_skip, Flow.ylP_enter, Flow.ylP_panic, hc0, hf0, e119, cc]
  exact hK g wz hC (fun _ _ => rfl)
 ·intro g L wz K ρ hc0 hf0 hF hO hU hcl hi hd hC hK
  have e3 : ρ (.tmp 3) = .pointer (some ⟨sb, 0, none⟩) := hO 3 (by kernel_rfl)
  simp [go_sem, Flow.ylP_value, Flow.ylP_skip, Flow.ylP_enter, Flow.ylP_panic, hc0, hf0, e3]
  exact hK g wz hC (fun _ _ => rfl)
 ·intro g L wz K ρ hc0 hf0 hF hO hU hcl hi hd hC hK
  have d4 : L 4 = true := hd ⟨4, .data⟩ (by simp) rfl
  have e121 : ρ (.tmp 121) = .pointer (some ⟨sb, 2, none⟩) := hF 121 4 (by kernel_rfl) d4
  have cc := (hC.rc 2 _ rfl).1
  simp [go_sem, Flow.ylP_value, Flow.ylP_skip, Flow.ylP_enter, Flow.ylP_panic, hc0, hf0, e121, cc]
  exact hK g wz hC (fun _ _ => rfl)
 ·intro g L wz K ρ hc0 hf0 hF hO hU hcl hi hd hC hK
  have d3 : L 3 = true := hd ⟨3, .data⟩ (by simp) rfl
  have e120 : ρ (.tmp 120) = .pointer (some ⟨Q.r, 0, none⟩) := hF 120 3 (by kernel_rfl) d3
  have d5 : L 5 = true := hd ⟨5, .data⟩ (by simp) rfl
  have e122 : ρ (.tmp 122) = .int .u64 (m : Int) := hF 122 5 (by kernel_rfl) d5
  simp [go_sem, Flow.ylP_value, Flow.ylP_skip, Flow.ylP_enter, Flow.ylP_panic, hc0, hf0, e120, e122]
  simp only [hi, cond_false] at hC
  refine (both_rcrash hC.lk.both hm (by omega)).mono ?_
  rintro r wn ⟨rfl, hb, h2, ht⟩
  rw [HV0.out]
  exact ⟨_, rfl, hK () wn (hC.to hb h2 ht) (by intro j hj; unfold rcrV; split <;> first | rfl | (rw [hi] at hj; cases hj) | (have hz := hcl _ 6 (by kernel_rfl) hj; rw [hi] at hz; cases hz))⟩
 ·intro g L ch wz h; exact h.elim
 ·intro g L wz hL hC
  rw [hL 6 (by decide)] at hC
  simp only [Flow.putAll, rcrV]
  simp [Act.put]
  clear hS HV0
  simp only [cond_true] at hC
  have hS := hC
  clear hC
  have k0 := (hS.rc 0 _ rfl).1
  go_wp2
  go_ret
  exact ⟨retI rfl, hS.done (by omega) hE⟩
set_option maxHeartbeats 1000000 in
set_option maxRecDepth 100000 in
theorem rstep31_any {w : World} {B K : Nat} {Q : LkC} {ps : List ByteArray} {x y : Lst} {G : Nat → Prop} (h : Lk w B K Q ps x y G) (N : Int) (m : Nat) (hm : m < 18446744073709551616) (hn : numOf N % 4 = 1) (hE : K + 5 ≤ 1000000) : Calls Tryz.prog 26 #[.pointer (some ⟨Q.lr, 0, none⟩), .agg #[.int .i64 3, .int .i64 N, .int .u64 (m : Int)]] w fun e w' => e = .returned (.int .i64 0) ∧ LkTo w B (K + 5) Q ps x ⟨y.f, (y.s.save).crash m⟩ G w' := by
 obtain ⟨M, hM⟩ : ∃ M, M = numOf N := ⟨_, rfl⟩
 have M1 : IntKind.u64.wrap N = (M : Int) := by rw [hM]; exact num_wrap N
 have M2 : Int.tmod (M : Int) 4 = 1 := by rw [Int.tmod_eq_emod_of_nonneg (by omega)]; omega
 have M3 : (M : Int) % 4 = 1 := by omega
 clear hM hn
 have hS := St.start h (stVs 3 N m) 56
 simp only [stVs] at hS
 clear h
 go_enter Tryz.func26, Tryz.ntmps26
 iterate 5 go_step
 generalize w.alloc (.cells #[.int .i64 3, .int .i64 N, .int .u64 (m : Int)] 56) = w1 at *
 generalize w.heap.size = sb at *

 have c0 := (hS.lk.rc 0 _ rfl).1
 have k0 := (hS.rc 0 _ rfl).1
 have k1 := (hS.rc 1 _ rfl).1
 go_wp2_with fail
 refine (both_rsave hS.lk.both (by omega)).mono ?_
 rintro e w2 ⟨rfl, hb, h2, ht⟩
 replace hS := hS.to hb h2 ht
 clear hb h2 ht c0 k0 k1
 have c0 := (hS.lk.rc 0 _ rfl).1
 have k0 := (hS.rc 0 _ rfl).1
 have k1 := (hS.rc 1 _ rfl).1
 go_wp2
 obtain ⟨v, hv⟩ : ∃ v, v = ((y.s.save).crash m).sf := ⟨_, rfl⟩
 have HV0 := Lib.hid hv.symm
 clear hv M1 M2 M3 c0 k0 k1
 refine Flow.wp_region_go (by kernel_rfl) (by kernel_rfl) (by kernel_rfl) 134 rfl (by kernel_rfl) (rcrV Q sb m v) (fun _ L wz => St w wz B (cond (L 6) (K + 1 + 1) (K + 1)) Q ps x ⟨y.f, cond (L 6) ((y.s.save).crash m) (y.s.save)⟩ G sb [.int .i64 3, .int .i64 N, .int .u64 (m : Int)]) (fun _ _ => False) (()) (hS.below (Below.refl _ _).drew) ⟨?_, ?_, ?_, ?_, ?_, ?_, ?_, trivial⟩ ?_ ?_
 ·intro g L wz K ρ hc0 hf0 hF hO hU hcl hi hd hC hK
  have e0 : ρ (.tmp 0) = .pointer (some ⟨Q.lr, 0, none⟩) := hO 0 (by kernel_rfl)
  simp [go_sem, Flow.ylP_value, Flow.ylP_skip, Flow.ylP_enter, Flow.ylP_panic, hc0, hf0, e0]
  exact hK g wz hC (fun _ _ => rfl)
 ·intro g L wz K ρ hc0 hf0 hF hO hU hcl hi hd hC hK
  have d0 : L 0 = true := hd ⟨0, .data⟩ (by simp) rfl
  have e117 : ρ (.tmp 117) = .pointer (some ⟨Q.lr, 0, none⟩) := hF 117 0 (by kernel_rfl) d0
  simp [go_sem, Flow.ylP_value, Flow.ylP_skip, Flow.ylP_enter, Flow.ylP_panic, hc0, hf0, e117]
  exact hK g wz hC (fun _ _ => rfl)
 ·intro g L wz K ρ hc0 hf0 hF hO hU hcl hi hd hC hK
  have d1 : L 1 = true := hd ⟨1, .data⟩ (by simp) rfl
  have e118 : ρ (.tmp 118) = .pointer (some ⟨Q.lr, 0, none⟩) := hF 118 1 (by kernel_rfl) d1
  simp [go_sem, Flow.ylP_value, Flow.ylP_skip, Flow.ylP_enter, Flow.ylP_panic, hc0, hf0, e118]
  exact hK g wz hC (fun _ _ => rfl)
 ·intro g L wz K ρ hc0 hf0 hF hO hU hcl hi hd hC hK
  have d2 : L 2 = true := hd ⟨2, .data⟩ (by simp) rfl
  have e119 : ρ (.tmp 119) = .pointer (some ⟨Q.lr, 0, none⟩) := hF 119 2 (by kernel_rfl) d2
  have cc := (hC.lk.rc 0 _ rfl).1
  simp [go_sem, Flow.ylP_value, Flow.ylP_skip, Flow.ylP_enter, Flow.ylP_panic, hc0, hf0, e119, cc]
  exact hK g wz hC (fun _ _ => rfl)
 ·intro g L wz K ρ hc0 hf0 hF hO hU hcl hi hd hC hK
  have e3 : ρ (.tmp 3) = .pointer (some ⟨sb, 0, none⟩) := hO 3 (by kernel_rfl)
  simp [go_sem, Flow.ylP_value, Flow.ylP_skip, Flow.ylP_enter, Flow.ylP_panic, hc0, hf0, e3]
  exact hK g wz hC (fun _ _ => rfl)
 ·intro g L wz K ρ hc0 hf0 hF hO hU hcl hi hd hC hK
  have d4 : L 4 = true := hd ⟨4, .data⟩ (by simp) rfl
  have e121 : ρ (.tmp 121) = .pointer (some ⟨sb, 2, none⟩) := hF 121 4 (by kernel_rfl) d4
  have cc := (hC.rc 2 _ rfl).1
  simp [go_sem, Flow.ylP_value, Flow.ylP_skip, Flow.ylP_enter, Flow.ylP_panic, hc0, hf0, e121, cc]
  exact hK g wz hC (fun _ _ => rfl)
 ·intro g L wz K ρ hc0 hf0 hF hO hU hcl hi hd hC hK
  have d3 : L 3 = true := hd ⟨3, .data⟩ (by simp) rfl
  have e120 : ρ (.tmp 120) = .pointer (some ⟨Q.r, 0, none⟩) := hF 120 3 (by kernel_rfl) d3
  have d5 : L 5 = true := hd ⟨5, .data⟩ (by simp) rfl
  have e122 : ρ (.tmp 122) = .int .u64 (m : Int) := hF 122 5 (by kernel_rfl) d5
  simp [go_sem, Flow.ylP_value, Flow.ylP_skip, Flow.ylP_enter, Flow.ylP_panic, hc0, hf0, e120, e122]
  simp only [hi, cond_false] at hC
  refine (both_rcrash hC.lk.both hm (by omega)).mono ?_
  rintro r wn ⟨rfl, hb, h2, ht⟩
  rw [HV0.out]
  exact ⟨_, rfl, hK () wn (hC.to hb h2 ht) (by intro j hj; unfold rcrV; split <;> first | rfl | (rw [hi] at hj; cases hj) | (have hz := hcl _ 6 (by kernel_rfl) hj; rw [hi] at hz; cases hz))⟩
 ·intro g L ch wz h; exact h.elim
 ·intro g L wz hL hC
  rw [hL 6 (by decide)] at hC
  simp only [Flow.putAll, rcrV]
  simp [Act.put]
  clear hS HV0
  simp only [cond_true] at hC
  have hS := hC
  clear hC
  have k0 := (hS.rc 0 _ rfl).1
  go_wp2
  go_ret
  exact ⟨retI rfl, hS.done (by omega) hE⟩
set_option maxHeartbeats 1000000 in
set_option maxRecDepth 100000 in
theorem rstep32_any {w : World} {B K : Nat} {Q : LkC} {ps : List ByteArray} {x y : Lst} {G : Nat → Prop} (h : Lk w B K Q ps x y G) (N : Int) (m : Nat) (hm : m < 18446744073709551616) (hn : numOf N % 4 = 2) (hE : K + 5 ≤ 1000000) : Calls Tryz.prog 26 #[.pointer (some ⟨Q.lr, 0, none⟩), .agg #[.int .i64 3, .int .i64 N, .int .u64 (m : Int)]] w fun e w' => e = .returned (.int .i64 0) ∧ LkTo w B (K + 5) Q ps x ⟨y.f, (y.s.save.flush.mark).crash m⟩ G w' := by
 obtain ⟨M, hM⟩ : ∃ M, M = numOf N := ⟨_, rfl⟩
 have M1 : IntKind.u64.wrap N = (M : Int) := by rw [hM]; exact num_wrap N
 have M2 : Int.tmod (M : Int) 4 = 2 := by rw [Int.tmod_eq_emod_of_nonneg (by omega)]; omega
 have M3 : (M : Int) % 4 = 2 := by omega
 clear hM hn
 have hS := St.start h (stVs 3 N m) 56
 simp only [stVs] at hS
 clear h
 go_enter Tryz.func26, Tryz.ntmps26
 iterate 5 go_step
 generalize w.alloc (.cells #[.int .i64 3, .int .i64 N, .int .u64 (m : Int)] 56) = w1 at *
 generalize w.heap.size = sb at *

 have c0 := (hS.lk.rc 0 _ rfl).1
 have k0 := (hS.rc 0 _ rfl).1
 have k1 := (hS.rc 1 _ rfl).1
 go_wp2_with fail
 refine (both_rsave hS.lk.both (by omega)).mono ?_
 rintro e w2 ⟨rfl, hb, h2, ht⟩
 replace hS := hS.to hb h2 ht
 clear hb h2 ht c0 k0 k1
 have c0 := (hS.lk.rc 0 _ rfl).1
 have k0 := (hS.rc 0 _ rfl).1
 have k1 := (hS.rc 1 _ rfl).1
 go_wp2_with fail
 refine (both_rflush hS.lk.both (by omega)).mono ?_
 rintro e w2 ⟨rfl, hb, h2, ht⟩
 replace hS := hS.to hb h2 ht
 clear hb h2 ht c0 k0 k1
 have c0 := (hS.lk.rc 0 _ rfl).1
 have k0 := (hS.rc 0 _ rfl).1
 have k1 := (hS.rc 1 _ rfl).1
 go_wp2_with fail
 refine (both_rmark hS.lk.both (by omega)).mono ?_
 rintro e w2 ⟨rfl, hb, h2, ht⟩
 replace hS := hS.to hb h2 ht
 clear hb h2 ht c0 k0 k1
 have c0 := (hS.lk.rc 0 _ rfl).1
 have k0 := (hS.rc 0 _ rfl).1
 have k1 := (hS.rc 1 _ rfl).1
 go_wp2
 obtain ⟨v, hv⟩ : ∃ v, v = ((y.s.save.flush.mark).crash m).sf := ⟨_, rfl⟩
 have HV0 := Lib.hid hv.symm
 clear hv M1 M2 M3 c0 k0 k1
 refine Flow.wp_region_go (by kernel_rfl) (by kernel_rfl) (by kernel_rfl) 134 rfl (by kernel_rfl) (rcrV Q sb m v) (fun _ L wz => St w wz B (cond (L 6) (K + 1 + 1 + 1 + 1) (K + 1 + 1 + 1)) Q ps x ⟨y.f, cond (L 6) ((y.s.save.flush.mark).crash m) (y.s.save.flush.mark)⟩ G sb [.int .i64 3, .int .i64 N, .int .u64 (m : Int)]) (fun _ _ => False) (()) (hS.below (Below.refl _ _).drew) ⟨?_, ?_, ?_, ?_, ?_, ?_, ?_, trivial⟩ ?_ ?_
 ·intro g L wz K ρ hc0 hf0 hF hO hU hcl hi hd hC hK
  have e0 : ρ (.tmp 0) = .pointer (some ⟨Q.lr, 0, none⟩) := hO 0 (by kernel_rfl)
  simp [go_sem, Flow.ylP_value, Flow.ylP_skip, Flow.ylP_enter, Flow.ylP_panic, hc0, hf0, e0]
  exact hK g wz hC (fun _ _ => rfl)
 ·intro g L wz K ρ hc0 hf0 hF hO hU hcl hi hd hC hK
  have d0 : L 0 = true := hd ⟨0, .data⟩ (by simp) rfl
  have e117 : ρ (.tmp 117) = .pointer (some ⟨Q.lr, 0, none⟩) := hF 117 0 (by kernel_rfl) d0
  simp [go_sem, Flow.ylP_value, Flow.ylP_skip, Flow.ylP_enter, Flow.ylP_panic, hc0, hf0, e117]
  exact hK g wz hC (fun _ _ => rfl)
 ·intro g L wz K ρ hc0 hf0 hF hO hU hcl hi hd hC hK
  have d1 : L 1 = true := hd ⟨1, .data⟩ (by simp) rfl
  have e118 : ρ (.tmp 118) = .pointer (some ⟨Q.lr, 0, none⟩) := hF 118 1 (by kernel_rfl) d1
  simp [go_sem, Flow.ylP_value, Flow.ylP_skip, Flow.ylP_enter, Flow.ylP_panic, hc0, hf0, e118]
  exact hK g wz hC (fun _ _ => rfl)
 ·intro g L wz K ρ hc0 hf0 hF hO hU hcl hi hd hC hK
  have d2 : L 2 = true := hd ⟨2, .data⟩ (by simp) rfl
  have e119 : ρ (.tmp 119) = .pointer (some ⟨Q.lr, 0, none⟩) := hF 119 2 (by kernel_rfl) d2
  have cc := (hC.lk.rc 0 _ rfl).1
  simp [go_sem, Flow.ylP_value, Flow.ylP_skip, Flow.ylP_enter, Flow.ylP_panic, hc0, hf0, e119, cc]
  exact hK g wz hC (fun _ _ => rfl)
 ·intro g L wz K ρ hc0 hf0 hF hO hU hcl hi hd hC hK
  have e3 : ρ (.tmp 3) = .pointer (some ⟨sb, 0, none⟩) := hO 3 (by kernel_rfl)
  simp [go_sem, Flow.ylP_value, Flow.ylP_skip, Flow.ylP_enter, Flow.ylP_panic, hc0, hf0, e3]
  exact hK g wz hC (fun _ _ => rfl)
 ·intro g L wz K ρ hc0 hf0 hF hO hU hcl hi hd hC hK
  have d4 : L 4 = true := hd ⟨4, .data⟩ (by simp) rfl
  have e121 : ρ (.tmp 121) = .pointer (some ⟨sb, 2, none⟩) := hF 121 4 (by kernel_rfl) d4
  have cc := (hC.rc 2 _ rfl).1
  simp [go_sem, Flow.ylP_value, Flow.ylP_skip, Flow.ylP_enter, Flow.ylP_panic, hc0, hf0, e121, cc]
  exact hK g wz hC (fun _ _ => rfl)
 ·intro g L wz K ρ hc0 hf0 hF hO hU hcl hi hd hC hK
  have d3 : L 3 = true := hd ⟨3, .data⟩ (by simp) rfl
  have e120 : ρ (.tmp 120) = .pointer (some ⟨Q.r, 0, none⟩) := hF 120 3 (by kernel_rfl) d3
  have d5 : L 5 = true := hd ⟨5, .data⟩ (by simp) rfl
  have e122 : ρ (.tmp 122) = .int .u64 (m : Int) := hF 122 5 (by kernel_rfl) d5
  simp [go_sem, Flow.ylP_value, Flow.ylP_skip, Flow.ylP_enter, Flow.ylP_panic, hc0, hf0, e120, e122]
  simp only [hi, cond_false] at hC
  refine (both_rcrash hC.lk.both hm (by omega)).mono ?_
  rintro r wn ⟨rfl, hb, h2, ht⟩
  rw [HV0.out]
  exact ⟨_, rfl, hK () wn (hC.to hb h2 ht) (by intro j hj; unfold rcrV; split <;> first | rfl | (rw [hi] at hj; cases hj) | (have hz := hcl _ 6 (by kernel_rfl) hj; rw [hi] at hz; cases hz))⟩
 ·intro g L ch wz h; exact h.elim
 ·intro g L wz hL hC
  rw [hL 6 (by decide)] at hC
  simp only [Flow.putAll, rcrV]
  simp [Act.put]
  clear hS HV0
  simp only [cond_true] at hC
  have hS := hC
  clear hC
  have k0 := (hS.rc 0 _ rfl).1
  go_wp2
  go_ret
  exact ⟨retI rfl, hS.done (by omega) hE⟩
set_option maxHeartbeats 1000000 in
set_option maxRecDepth 100000 in
theorem rstep33_any {w : World} {B K : Nat} {Q : LkC} {ps : List ByteArray} {x y : Lst} {G : Nat → Prop} (h : Lk w B K Q ps x y G) (N : Int) (m : Nat) (hm : m < 18446744073709551616) (hn : numOf N % 4 = 3) (hE : K + 5 ≤ 1000000) : Calls Tryz.prog 26 #[.pointer (some ⟨Q.lr, 0, none⟩), .agg #[.int .i64 3, .int .i64 N, .int .u64 (m : Int)]] w fun e w' => e = .returned (.int .i64 0) ∧ LkTo w B (K + 5) Q ps x ⟨y.f, (y.s.mark).crash m⟩ G w' := by
 obtain ⟨M, hM⟩ : ∃ M, M = numOf N := ⟨_, rfl⟩
 have M1 : IntKind.u64.wrap N = (M : Int) := by rw [hM]; exact num_wrap N
 have M2 : Int.tmod (M : Int) 4 = 3 := by rw [Int.tmod_eq_emod_of_nonneg (by omega)]; omega
 have M3 : (M : Int) % 4 = 3 := by omega
 clear hM hn
 have hS := St.start h (stVs 3 N m) 56
 simp only [stVs] at hS
 clear h
 go_enter Tryz.func26, Tryz.ntmps26
 iterate 5 go_step
 generalize w.alloc (.cells #[.int .i64 3, .int .i64 N, .int .u64 (m : Int)] 56) = w1 at *
 generalize w.heap.size = sb at *

 have c0 := (hS.lk.rc 0 _ rfl).1
 have k0 := (hS.rc 0 _ rfl).1
 have k1 := (hS.rc 1 _ rfl).1
 go_wp2_with fail
 refine (both_rmark hS.lk.both (by omega)).mono ?_
 rintro e w2 ⟨rfl, hb, h2, ht⟩
 replace hS := hS.to hb h2 ht
 clear hb h2 ht c0 k0 k1
 have c0 := (hS.lk.rc 0 _ rfl).1
 have k0 := (hS.rc 0 _ rfl).1
 have k1 := (hS.rc 1 _ rfl).1
 go_wp2
 obtain ⟨v, hv⟩ : ∃ v, v = ((y.s.mark).crash m).sf := ⟨_, rfl⟩
 have HV0 := Lib.hid hv.symm
 clear hv M1 M2 M3 c0 k0 k1
 refine Flow.wp_region_go (by kernel_rfl) (by kernel_rfl) (by kernel_rfl) 134 rfl (by kernel_rfl) (rcrV Q sb m v) (fun _ L wz => St w wz B (cond (L 6) (K + 1 + 1) (K + 1)) Q ps x ⟨y.f, cond (L 6) ((y.s.mark).crash m) (y.s.mark)⟩ G sb [.int .i64 3, .int .i64 N, .int .u64 (m : Int)]) (fun _ _ => False) (()) (hS.below (Below.refl _ _).drew) ⟨?_, ?_, ?_, ?_, ?_, ?_, ?_, trivial⟩ ?_ ?_
 ·intro g L wz K ρ hc0 hf0 hF hO hU hcl hi hd hC hK
  have e0 : ρ (.tmp 0) = .pointer (some ⟨Q.lr, 0, none⟩) := hO 0 (by kernel_rfl)
  simp [go_sem, Flow.ylP_value, Flow.ylP_skip, Flow.ylP_enter, Flow.ylP_panic, hc0, hf0, e0]
  exact hK g wz hC (fun _ _ => rfl)
 ·intro g L wz K ρ hc0 hf0 hF hO hU hcl hi hd hC hK
  have d0 : L 0 = true := hd ⟨0, .data⟩ (by simp) rfl
  have e117 : ρ (.tmp 117) = .pointer (some ⟨Q.lr, 0, none⟩) := hF 117 0 (by kernel_rfl) d0
  simp [go_sem, Flow.ylP_value, Flow.ylP_skip, Flow.ylP_enter, Flow.ylP_panic, hc0, hf0, e117]
  exact hK g wz hC (fun _ _ => rfl)
 ·intro g L wz K ρ hc0 hf0 hF hO hU hcl hi hd hC hK
  have d1 : L 1 = true := hd ⟨1, .data⟩ (by simp) rfl
  have e118 : ρ (.tmp 118) = .pointer (some ⟨Q.lr, 0, none⟩) := hF 118 1 (by kernel_rfl) d1
  simp [go_sem, Flow.ylP_value, Flow.ylP_skip, Flow.ylP_enter, Flow.ylP_panic, hc0, hf0, e118]
  exact hK g wz hC (fun _ _ => rfl)
 ·intro g L wz K ρ hc0 hf0 hF hO hU hcl hi hd hC hK
  have d2 : L 2 = true := hd ⟨2, .data⟩ (by simp) rfl
  have e119 : ρ (.tmp 119) = .pointer (some ⟨Q.lr, 0, none⟩) := hF 119 2 (by kernel_rfl) d2
  have cc := (hC.lk.rc 0 _ rfl).1
  simp [go_sem, Flow.ylP_value, Flow.ylP_skip, Flow.ylP_enter, Flow.ylP_panic, hc0, hf0, e119, cc]
  exact hK g wz hC (fun _ _ => rfl)
 ·intro g L wz K ρ hc0 hf0 hF hO hU hcl hi hd hC hK
  have e3 : ρ (.tmp 3) = .pointer (some ⟨sb, 0, none⟩) := hO 3 (by kernel_rfl)
  simp [go_sem, Flow.ylP_value, Flow.ylP_skip, Flow.ylP_enter, Flow.ylP_panic, hc0, hf0, e3]
  exact hK g wz hC (fun _ _ => rfl)
 ·intro g L wz K ρ hc0 hf0 hF hO hU hcl hi hd hC hK
  have d4 : L 4 = true := hd ⟨4, .data⟩ (by simp) rfl
  have e121 : ρ (.tmp 121) = .pointer (some ⟨sb, 2, none⟩) := hF 121 4 (by kernel_rfl) d4
  have cc := (hC.rc 2 _ rfl).1
  simp [go_sem, Flow.ylP_value, Flow.ylP_skip, Flow.ylP_enter, Flow.ylP_panic, hc0, hf0, e121, cc]
  exact hK g wz hC (fun _ _ => rfl)
 ·intro g L wz K ρ hc0 hf0 hF hO hU hcl hi hd hC hK
  have d3 : L 3 = true := hd ⟨3, .data⟩ (by simp) rfl
  have e120 : ρ (.tmp 120) = .pointer (some ⟨Q.r, 0, none⟩) := hF 120 3 (by kernel_rfl) d3
  have d5 : L 5 = true := hd ⟨5, .data⟩ (by simp) rfl
  have e122 : ρ (.tmp 122) = .int .u64 (m : Int) := hF 122 5 (by kernel_rfl) d5
  simp [go_sem, Flow.ylP_value, Flow.ylP_skip, Flow.ylP_enter, Flow.ylP_panic, hc0, hf0, e120, e122]
  simp only [hi, cond_false] at hC
  refine (both_rcrash hC.lk.both hm (by omega)).mono ?_
  rintro r wn ⟨rfl, hb, h2, ht⟩
  rw [HV0.out]
  exact ⟨_, rfl, hK () wn (hC.to hb h2 ht) (by intro j hj; unfold rcrV; split <;> first | rfl | (rw [hi] at hj; cases hj) | (have hz := hcl _ 6 (by kernel_rfl) hj; rw [hi] at hz; cases hz))⟩
 ·intro g L ch wz h; exact h.elim
 ·intro g L wz hL hC
  rw [hL 6 (by decide)] at hC
  simp only [Flow.putAll, rcrV]
  simp [Act.put]
  clear hS HV0
  simp only [cond_true] at hC
  have hS := hC
  clear hC
  have k0 := (hS.rc 0 _ rfl).1
  go_wp2
  go_ret
  exact ⟨retI rfl, hS.done (by omega) hE⟩
set_option maxHeartbeats 1000000 in
set_option maxRecDepth 100000 in
theorem rstep0_any {w : World} {B K : Nat} {Q : LkC} {ps : List ByteArray} {x y : Lst} {G : Nat → Prop} (h : Lk w B K Q ps x y G) {kd : Int} (N : Int) (m : Nat) (n1 : kd ≠ 1) (n2 : kd ≠ 2) (n3 : kd ≠ 3) (n4 : kd ≠ 4) (n5 : kd ≠ 5) (hE : K + 5 ≤ 1000000) : Calls Tryz.prog 26 #[.pointer (some ⟨Q.lr, 0, none⟩), .agg #[.int .i64 kd, .int .i64 N, .int .u64 (m : Int)]] w fun e w' => e = .returned (.int .i64 (1)) ∧ LkTo w B (K + 5) Q ps x ⟨y.f, y.s⟩ G w' := by
 have T1 := beq_eq_false_iff_ne.2 n1
 have T2 := beq_eq_false_iff_ne.2 n2
 have T3 := beq_eq_false_iff_ne.2 n3
 have T4 := beq_eq_false_iff_ne.2 n4
 have T5 := beq_eq_false_iff_ne.2 n5
 have hS := St.start h (stVs kd N m) 56
 simp only [stVs] at hS
 clear h
 go_enter Tryz.func26, Tryz.ntmps26
 iterate 5 go_step
 generalize w.alloc (.cells #[.int .i64 kd, .int .i64 N, .int .u64 (m : Int)] 56) = w1 at *
 generalize w.heap.size = sb at *

 have c0 := (hS.lk.rc 0 _ rfl).1
 have k0 := (hS.rc 0 _ rfl).1
 go_wp2
 go_ret
 exact ⟨retI rfl, hS.done (by omega) hE⟩
def rlkV (Q : LkC) (y : Lst) (n u q : Nat) (g : Unit) : Nat → Value
 | 0 => .pointer (some ⟨Q.lr, 0, none⟩)
 | 1 => .pointer (some ⟨Q.lr, 0, none⟩)
 | 2 => .pointer (some ⟨Q.lr, 1, none⟩)
 | 3 => .slice (some ⟨Q.C, 0, none⟩) n Q.c
 | 4 => .pointer (some ⟨Q.lr, 0, none⟩)
 | 5 => .pointer (some ⟨Q.lr, 0, none⟩)
 | 6 => .pointer (some ⟨Q.lr, 1, none⟩)
 | 7 => .slice (some ⟨Q.C, 0, none⟩) n Q.c
 | 8 => .int .i64 (n : Int)
 | 9 => .pointer (some ⟨Q.lr, 0, none⟩)
 | 10 => .pointer (some ⟨Q.lr, 0, none⟩)
 | 11 => .pointer (some ⟨Q.lr, 3, none⟩)
 | 12 => .int .i64 (y.f : Int)
 | 13 => .pointer (some ⟨Q.lr, 0, none⟩)
 | 14 => .pointer (some ⟨Q.lr, 0, none⟩)
 | 15 => .pointer (some ⟨Q.lr, 2, none⟩)
 | 16 => .int .i64 (Q.z : Int)
 | 17 => .int .i64 (q : Int)
 | 18 => .int .i64 (u : Int)
 | 19 => .slice (lkT Q.C Q.c u) (n - u) (Q.c - u)
 | 20 => .slice (lkT Q.C Q.c u) (n - u) (Q.c - u)
 | _ => undef
set_option maxHeartbeats 1000000 in
set_option maxRecDepth 100000 in
theorem rstep1_any {w : World} {B K : Nat} {Q : LkC} {ps : List ByteArray} {x y : Lst} {G : Nat → Prop} (h : Lk w B K Q ps x y G) (N : Int) (m : Nat) (hm : m < 18446744073709551616) (hE : K + 5 ≤ 1000000) : Calls Tryz.prog 26 #[.pointer (some ⟨Q.lr, 0, none⟩), .agg #[.int .i64 1, .int .i64 N, .int .u64 (m : Int)]] w fun e w' => e = .returned (.int .i64 (sentE 1 y.s m (pick1 ps Q.z y.f N))) ∧ LkTo w B (K + 5) Q ps x ⟨y.f, sentS 1 y.s m (pick1 ps Q.z y.f N)⟩ G w' := by
 have hS := St.start h (stVs 1 N m) 56
 simp only [stVs] at hS
 clear h
 go_enter Tryz.func26, Tryz.ntmps26
 iterate 5 go_step
 generalize w.alloc (.cells #[.int .i64 1, .int .i64 N, .int .u64 (m : Int)] 56) = w1 at *
 generalize w.heap.size = sb at *

 obtain ⟨n, hn⟩ : ∃ n, n = ps.length := ⟨_, rfl⟩
 obtain ⟨q, hq⟩ : ∃ q, q = y.f / Q.z := ⟨_, rfl⟩
 obtain ⟨u, hu0⟩ : ∃ u, u = min n q := ⟨_, rfl⟩
 have hu : u ≤ n := by omega
 have hna : n ≤ Q.c := by rw [hn]; exact hS.lk.cap.2
 have hzz := hS.lk.z
 have hff := hS.lk.fx.2
 have HN4 : Hid (n ≤ 4096) := Lib.hid (by rw [hn]; exact hS.lk.n.2)
 have HC1 : Hid (∀ wz, Lk wz B K Q ps x y (fun i => G i ∨ i = sb) → wz.cell? ⟨Q.lr, 1, none⟩ = some (.slice (some ⟨Q.C, 0, none⟩) n Q.c)) := Lib.hid fun wz hz => by rw [hn]; exact (hz.rc 1 _ rfl).1
 have HP : Hid ((u < n → ∃ t, ps[u + numOf N % (n - u)]? = some t ∧ pick1 ps Q.z y.f N = some t) ∧ (n ≤ u → pick1 ps Q.z y.f N = none)) := Lib.hid ⟨fun hlt => by
  have e : u = y.f / Q.z := by omega
  rw [e, hn]
  exact pick1_some (by omega), fun hge => pick1_none (by omega)⟩
 have hqf : q ≤ 4096 := by rw [hq]; exact Nat.le_trans (Nat.div_le_self _ _) hff
 have hd : (y.f : Int) / (Q.z : Int) = (q : Int) := by rw [hq]; exact lk_div
 have hd2 : Int.tdiv (y.f : Int) (Q.z : Int) = (q : Int) := by rw [Int.tdiv_eq_ediv_of_nonneg (by omega)]; exact hd
 have hz0 : ¬ (Q.z : Int) = 0 := by omega
 have hz00 : ¬ Q.z = 0 := by omega
 have hmn : min (n : Int) (q : Int) = (u : Int) := by omega
 have W2 := Lib.hid (w_in (q : Int) q rfl (by omega))
 clear hn hq hu0 hzz hff hqf
 obtain ⟨w3, w4⟩ := W2.out
 have k0 := (hS.rc 0 _ rfl).1
 go_wp2
 clear k0
 refine Flow.wp_region_go (by kernel_rfl) (by kernel_rfl) (by kernel_rfl) 134 rfl (by kernel_rfl) (rlkV Q y n u q) (fun _ _ wz => St w wz B K Q ps x y G sb [.int .i64 1, .int .i64 N, .int .u64 (m : Int)]) (fun _ _ => False) (()) (hS.below (Below.refl _ _).drew) ⟨?_, ?_, ?_, ?_, ?_, ?_, ?_, ?_, ?_, ?_, ?_, ?_, ?_, ?_, ?_, ?_, ?_, ?_, ?_, ?_, ?_, trivial⟩ ?_ ?_
 ·intro g L wz K ρ hc0 hf0 hF hO hU hcl hi hd hC hK
  have e0 : ρ (.tmp 0) = .pointer (some ⟨Q.lr, 0, none⟩) := hO 0 (by kernel_rfl)
  simp [go_sem, Flow.ylP_value, Flow.ylP_skip, Flow.ylP_enter, Flow.ylP_panic, hc0, hf0, e0]
  exact hK g wz hC (fun _ _ => rfl)
 ·intro g L wz K ρ hc0 hf0 hF hO hU hcl hi hd hC hK
  have d0 : L 0 = true := hd ⟨0, .data⟩ (by simp) rfl
  have e12 : ρ (.tmp 12) = .pointer (some ⟨Q.lr, 0, none⟩) := hF 12 0 (by kernel_rfl) d0
  simp [go_sem, Flow.ylP_value, Flow.ylP_skip, Flow.ylP_enter, Flow.ylP_panic, hc0, hf0, e12]
  exact hK g wz hC (fun _ _ => rfl)
 ·intro g L wz K ρ hc0 hf0 hF hO hU hcl hi hd hC hK
  have d1 : L 1 = true := hd ⟨1, .data⟩ (by simp) rfl
  have e13 : ρ (.tmp 13) = .pointer (some ⟨Q.lr, 0, none⟩) := hF 13 1 (by kernel_rfl) d1
  simp [go_sem, Flow.ylP_value, Flow.ylP_skip, Flow.ylP_enter, Flow.ylP_panic, hc0, hf0, e13]
  exact hK g wz hC (fun _ _ => rfl)
 ·intro g L wz K ρ hc0 hf0 hF hO hU hcl hi hd hC hK
  have d2 : L 2 = true := hd ⟨2, .data⟩ (by simp) rfl
  have e14 : ρ (.tmp 14) = .pointer (some ⟨Q.lr, 1, none⟩) := hF 14 2 (by kernel_rfl) d2
  have cc := HC1.out wz hC.lk
  simp [go_sem, Flow.ylP_value, Flow.ylP_skip, Flow.ylP_enter, Flow.ylP_panic, hc0, hf0, e14, cc]
  exact hK g wz hC (fun _ _ => rfl)
 ·intro g L wz K ρ hc0 hf0 hF hO hU hcl hi hd hC hK
  have e0 : ρ (.tmp 0) = .pointer (some ⟨Q.lr, 0, none⟩) := hO 0 (by kernel_rfl)
  simp [go_sem, Flow.ylP_value, Flow.ylP_skip, Flow.ylP_enter, Flow.ylP_panic, hc0, hf0, e0]
  exact hK g wz hC (fun _ _ => rfl)
 ·intro g L wz K ρ hc0 hf0 hF hO hU hcl hi hd hC hK
  have d4 : L 4 = true := hd ⟨4, .data⟩ (by simp) rfl
  have e16 : ρ (.tmp 16) = .pointer (some ⟨Q.lr, 0, none⟩) := hF 16 4 (by kernel_rfl) d4
  simp [go_sem, Flow.ylP_value, Flow.ylP_skip, Flow.ylP_enter, Flow.ylP_panic, hc0, hf0, e16]
  exact hK g wz hC (fun _ _ => rfl)
 ·intro g L wz K ρ hc0 hf0 hF hO hU hcl hi hd hC hK
  have d5 : L 5 = true := hd ⟨5, .data⟩ (by simp) rfl
  have e17 : ρ (.tmp 17) = .pointer (some ⟨Q.lr, 0, none⟩) := hF 17 5 (by kernel_rfl) d5
  simp [go_sem, Flow.ylP_value, Flow.ylP_skip, Flow.ylP_enter, Flow.ylP_panic, hc0, hf0, e17]
  exact hK g wz hC (fun _ _ => rfl)
 ·intro g L wz K ρ hc0 hf0 hF hO hU hcl hi hd hC hK
  have d6 : L 6 = true := hd ⟨6, .data⟩ (by simp) rfl
  have e18 : ρ (.tmp 18) = .pointer (some ⟨Q.lr, 1, none⟩) := hF 18 6 (by kernel_rfl) d6
  have cc := HC1.out wz hC.lk
  simp [go_sem, Flow.ylP_value, Flow.ylP_skip, Flow.ylP_enter, Flow.ylP_panic, hc0, hf0, e18, cc]
  exact hK g wz hC (fun _ _ => rfl)
 ·intro g L wz K ρ hc0 hf0 hF hO hU hcl hi hd hC hK
  have d7 : L 7 = true := hd ⟨7, .data⟩ (by simp) rfl
  have e19 : ρ (.tmp 19) = .slice (some ⟨Q.C, 0, none⟩) n Q.c := hF 19 7 (by kernel_rfl) d7
  simp [go_sem, Flow.ylP_value, Flow.ylP_skip, Flow.ylP_enter, Flow.ylP_panic, hc0, hf0, e19]
  exact hK g wz hC (fun _ _ => rfl)
 ·intro g L wz K ρ hc0 hf0 hF hO hU hcl hi hd hC hK
  have e0 : ρ (.tmp 0) = .pointer (some ⟨Q.lr, 0, none⟩) := hO 0 (by kernel_rfl)
  simp [go_sem, Flow.ylP_value, Flow.ylP_skip, Flow.ylP_enter, Flow.ylP_panic, hc0, hf0, e0]
  exact hK g wz hC (fun _ _ => rfl)
 ·intro g L wz K ρ hc0 hf0 hF hO hU hcl hi hd hC hK
  have d9 : L 9 = true := hd ⟨9, .data⟩ (by simp) rfl
  have e21 : ρ (.tmp 21) = .pointer (some ⟨Q.lr, 0, none⟩) := hF 21 9 (by kernel_rfl) d9
  simp [go_sem, Flow.ylP_value, Flow.ylP_skip, Flow.ylP_enter, Flow.ylP_panic, hc0, hf0, e21]
  exact hK g wz hC (fun _ _ => rfl)
 ·intro g L wz K ρ hc0 hf0 hF hO hU hcl hi hd hC hK
  have d10 : L 10 = true := hd ⟨10, .data⟩ (by simp) rfl
  have e22 : ρ (.tmp 22) = .pointer (some ⟨Q.lr, 0, none⟩) := hF 22 10 (by kernel_rfl) d10
  simp [go_sem, Flow.ylP_value, Flow.ylP_skip, Flow.ylP_enter, Flow.ylP_panic, hc0, hf0, e22]
  exact hK g wz hC (fun _ _ => rfl)
 ·intro g L wz K ρ hc0 hf0 hF hO hU hcl hi hd hC hK
  have d11 : L 11 = true := hd ⟨11, .data⟩ (by simp) rfl
  have e23 : ρ (.tmp 23) = .pointer (some ⟨Q.lr, 3, none⟩) := hF 23 11 (by kernel_rfl) d11
  have cc := (hC.lk.rc 3 _ rfl).1
  simp [go_sem, Flow.ylP_value, Flow.ylP_skip, Flow.ylP_enter, Flow.ylP_panic, hc0, hf0, e23, cc]
  exact hK g wz hC (fun _ _ => rfl)
 ·intro g L wz K ρ hc0 hf0 hF hO hU hcl hi hd hC hK
  have e0 : ρ (.tmp 0) = .pointer (some ⟨Q.lr, 0, none⟩) := hO 0 (by kernel_rfl)
  simp [go_sem, Flow.ylP_value, Flow.ylP_skip, Flow.ylP_enter, Flow.ylP_panic, hc0, hf0, e0]
  exact hK g wz hC (fun _ _ => rfl)
 ·intro g L wz K ρ hc0 hf0 hF hO hU hcl hi hd hC hK
  have d13 : L 13 = true := hd ⟨13, .data⟩ (by simp) rfl
  have e25 : ρ (.tmp 25) = .pointer (some ⟨Q.lr, 0, none⟩) := hF 25 13 (by kernel_rfl) d13
  simp [go_sem, Flow.ylP_value, Flow.ylP_skip, Flow.ylP_enter, Flow.ylP_panic, hc0, hf0, e25]
  exact hK g wz hC (fun _ _ => rfl)
 ·intro g L wz K ρ hc0 hf0 hF hO hU hcl hi hd hC hK
  have d14 : L 14 = true := hd ⟨14, .data⟩ (by simp) rfl
  have e26 : ρ (.tmp 26) = .pointer (some ⟨Q.lr, 0, none⟩) := hF 26 14 (by kernel_rfl) d14
  simp [go_sem, Flow.ylP_value, Flow.ylP_skip, Flow.ylP_enter, Flow.ylP_panic, hc0, hf0, e26]
  exact hK g wz hC (fun _ _ => rfl)
 ·intro g L wz K ρ hc0 hf0 hF hO hU hcl hi hd hC hK
  have d15 : L 15 = true := hd ⟨15, .data⟩ (by simp) rfl
  have e27 : ρ (.tmp 27) = .pointer (some ⟨Q.lr, 2, none⟩) := hF 27 15 (by kernel_rfl) d15
  have cc := (hC.lk.rc 2 _ rfl).1
  simp [go_sem, Flow.ylP_value, Flow.ylP_skip, Flow.ylP_enter, Flow.ylP_panic, hc0, hf0, e27, cc]
  exact hK g wz hC (fun _ _ => rfl)
 ·intro g L wz K ρ hc0 hf0 hF hO hU hcl hi hd hC hK
  have d12 : L 12 = true := hd ⟨12, .data⟩ (by simp) rfl
  have e24 : ρ (.tmp 24) = .int .i64 (y.f : Int) := hF 24 12 (by kernel_rfl) d12
  have d16 : L 16 = true := hd ⟨16, .data⟩ (by simp) rfl
  have e28 : ρ (.tmp 28) = .int .i64 (Q.z : Int) := hF 28 16 (by kernel_rfl) d16
  simp [go_sem, Flow.ylP_value, Flow.ylP_skip, Flow.ylP_enter, Flow.ylP_panic, hc0, hf0, e24, e28, hd, hd2, hz0, hz00, w3, w4]
  exact hK g wz hC (fun _ _ => rfl)
 ·intro g L wz K ρ hc0 hf0 hF hO hU hcl hi hd hC hK
  have d8 : L 8 = true := hd ⟨8, .data⟩ (by simp) rfl
  have e20 : ρ (.tmp 20) = .int .i64 (n : Int) := hF 20 8 (by kernel_rfl) d8
  have d17 : L 17 = true := hd ⟨17, .data⟩ (by simp) rfl
  have e29 : ρ (.tmp 29) = .int .i64 (q : Int) := hF 29 17 (by kernel_rfl) d17
  simp [go_sem, Flow.ylP_value, Flow.ylP_skip, Flow.ylP_enter, Flow.ylP_panic, hc0, hf0, e20, e29, hmn]
  exact hK g wz hC (fun _ _ => rfl)
 ·intro g L wz K ρ hc0 hf0 hF hO hU hcl hi hd hC hK
  have d3 : L 3 = true := hd ⟨3, .data⟩ (by simp) rfl
  have e15 : ρ (.tmp 15) = .slice (some ⟨Q.C, 0, none⟩) n Q.c := hF 15 3 (by kernel_rfl) d3
  have d18 : L 18 = true := hd ⟨18, .data⟩ (by simp) rfl
  have e30 : ρ (.tmp 30) = .int .i64 (u : Int) := hF 30 18 (by kernel_rfl) d18
  have hsl := run_stail Q.C n Q.c u hu hna wz
  unfold execOp
  simp only [resolve, Sem.run_bind, Sem.run_pure, Result.andThen_ok, Option.map_some, Option.map_none, e15, e30, sliceAt_isS, hsl]
  exact hK g wz hC (fun _ _ => rfl)
 ·intro g L wz K ρ hc0 hf0 hF hO hU hcl hi hd hC hK
  have d19 : L 19 = true := hd ⟨19, .data⟩ (by simp) rfl
  have e31 : ρ (.tmp 31) = .slice (lkT Q.C Q.c u) (n - u) (Q.c - u) := hF 31 19 (by kernel_rfl) d19
  simp [go_sem, Flow.ylP_value, Flow.ylP_skip, Flow.ylP_enter, Flow.ylP_panic, hc0, hf0, e31]
  exact hK g wz hC (fun _ _ => rfl)
 ·intro g L ch wz h; exact h.elim
 ·intro g L wz hL hC
  simp only [Flow.putAll, rlkV]
  simp [Act.put]
  clear hS HC1 hd hd2 hz0 hz00 hmn w3 w4 W2
  have hS := hC
  clear hC
  have hrow := hS.lk.rr
  have hn4 := HN4.out
  have c0 := (hS.lk.rc 0 _ rfl).1
  have k0 := (hS.rc 0 _ rfl).1
  have k1 := (hS.rc 1 _ rfl).1
  have k2 := (hS.rc 2 _ rfl).1
  by_cases hq : u < n
  ·obtain ⟨t, ht1, ht2⟩ := HP.out.1 hq
   obtain ⟨d, hd⟩ : ∃ d, d = n - u := ⟨_, rfl⟩
   obtain ⟨M, hM⟩ : ∃ M, M = numOf N := ⟨_, rfl⟩
   obtain ⟨r, hr⟩ : ∃ r, r = M % d := ⟨_, rfl⟩
   have hrd : r < d := by rw [hr]; exact Nat.mod_lt _ (by omega)
   have hc := hrow _ t ht1
   rw [← hd, ← hM, ← hr] at hc
   have T1 : decide (d = 0) = false := decide_eq_false (by omega)
   have T2 : ((d : Int) == 0) = false := by simp; omega
   have T3 : ¬ d = 0 := by omega
   have T4 : ¬ ((d : Int) = 0) := by omega
   have M1 : Int.tmod (M : Int) (d : Int) = (r : Int) := by rw [hr]; rfl
   have M2 : (M : Int) % (d : Int) = (r : Int) := by rw [hr]; rfl
   have M3 : IntKind.u64.wrap N = (M : Int) := by rw [hM]; exact num_wrap N
   have M4 : IntKind.u64.wrap (d : Int) = (d : Int) := num_small (by omega)
   have M5 : IntKind.u64.wrap (r : Int) = (r : Int) := num_small (by omega)
   have M6 : IntKind.i64.wrap (r : Int) = (r : Int) := (w_in (r : Int) r rfl (by omega)).1
   have eT : lkT Q.C Q.c u = some ⟨Q.C, u, none⟩ := by unfold lkT; rw [if_neg (by omega)]
   have HT := Lib.hid ht2
   obtain ⟨hz1, hz2⟩ := hS.lk.sz t (pick1_mem ht2)
   rw [← hd, eT]
   clear ht1 ht2 HP hd hM hr eT hn4 hu hna HN4
   obtain ⟨tt, htt⟩ : ∃ tt, tt = t := ⟨_, rfl⟩
   have HTT := Lib.hid htt
   have HT5 : Hid (tt.size ≤ 1000000) := Lib.hid (by rw [htt]; omega)
   rw [← htt] at hc
   clear hz1 hz2 htt
   go_wp2_with fail
   refine (both_rtake tt hS.lk.both HT5.out (by omega)).mono ?_
   rintro e w2 ⟨rfl, hb, h2, ht⟩
   replace hS := hS.to hb h2 ht
   clear hb h2 ht c0 k0 k1 k2
   go_wp2
   go_ret
   rw [HT.out]
   have eT : sentT 1 t m = tt := by rw [HTT.out]; unfold sentT; rw [if_neg (by decide)]
   simp only [sentE, sentS, eT]
   exact ⟨rfl, hS.done (by omega) hE⟩
  ·have hz : n - u = 0 := by omega
   have HT := Lib.hid (HP.out.2 (by omega))
   rw [hz]
   clear HP hrow
   go_wp2
   go_ret
   rw [HT.out]
   exact ⟨rfl, hS.done (by omega) hE⟩
set_option maxHeartbeats 1000000 in
set_option maxRecDepth 100000 in
theorem rstep5_any {w : World} {B K : Nat} {Q : LkC} {ps : List ByteArray} {x y : Lst} {G : Nat → Prop} (h : Lk w B K Q ps x y G) (N : Int) (m : Nat) (hm : m < 18446744073709551616) (hE : K + 5 ≤ 1000000) : Calls Tryz.prog 26 #[.pointer (some ⟨Q.lr, 0, none⟩), .agg #[.int .i64 5, .int .i64 N, .int .u64 (m : Int)]] w fun e w' => e = .returned (.int .i64 (sentE 5 y.s m (pick1 ps Q.z y.f N))) ∧ LkTo w B (K + 5) Q ps x ⟨y.f, sentS 5 y.s m (pick1 ps Q.z y.f N)⟩ G w' := by
 have hS := St.start h (stVs 5 N m) 56
 simp only [stVs] at hS
 clear h
 go_enter Tryz.func26, Tryz.ntmps26
 iterate 5 go_step
 generalize w.alloc (.cells #[.int .i64 5, .int .i64 N, .int .u64 (m : Int)] 56) = w1 at *
 generalize w.heap.size = sb at *

 obtain ⟨n, hn⟩ : ∃ n, n = ps.length := ⟨_, rfl⟩
 obtain ⟨q, hq⟩ : ∃ q, q = y.f / Q.z := ⟨_, rfl⟩
 obtain ⟨u, hu0⟩ : ∃ u, u = min n q := ⟨_, rfl⟩
 have hu : u ≤ n := by omega
 have hna : n ≤ Q.c := by rw [hn]; exact hS.lk.cap.2
 have hzz := hS.lk.z
 have hff := hS.lk.fx.2
 have HN4 : Hid (n ≤ 4096) := Lib.hid (by rw [hn]; exact hS.lk.n.2)
 have HC1 : Hid (∀ wz, Lk wz B K Q ps x y (fun i => G i ∨ i = sb) → wz.cell? ⟨Q.lr, 1, none⟩ = some (.slice (some ⟨Q.C, 0, none⟩) n Q.c)) := Lib.hid fun wz hz => by rw [hn]; exact (hz.rc 1 _ rfl).1
 have HP : Hid ((u < n → ∃ t, ps[u + numOf N % (n - u)]? = some t ∧ pick1 ps Q.z y.f N = some t) ∧ (n ≤ u → pick1 ps Q.z y.f N = none)) := Lib.hid ⟨fun hlt => by
  have e : u = y.f / Q.z := by omega
  rw [e, hn]
  exact pick1_some (by omega), fun hge => pick1_none (by omega)⟩
 have hqf : q ≤ 4096 := by rw [hq]; exact Nat.le_trans (Nat.div_le_self _ _) hff
 have hd : (y.f : Int) / (Q.z : Int) = (q : Int) := by rw [hq]; exact lk_div
 have hd2 : Int.tdiv (y.f : Int) (Q.z : Int) = (q : Int) := by rw [Int.tdiv_eq_ediv_of_nonneg (by omega)]; exact hd
 have hz0 : ¬ (Q.z : Int) = 0 := by omega
 have hz00 : ¬ Q.z = 0 := by omega
 have hmn : min (n : Int) (q : Int) = (u : Int) := by omega
 have W2 := Lib.hid (w_in (q : Int) q rfl (by omega))
 clear hn hq hu0 hzz hff hqf
 obtain ⟨w3, w4⟩ := W2.out
 have k0 := (hS.rc 0 _ rfl).1
 go_wp2
 clear k0
 refine Flow.wp_region_go (by kernel_rfl) (by kernel_rfl) (by kernel_rfl) 134 rfl (by kernel_rfl) (rlkV Q y n u q) (fun _ _ wz => St w wz B K Q ps x y G sb [.int .i64 5, .int .i64 N, .int .u64 (m : Int)]) (fun _ _ => False) (()) (hS.below (Below.refl _ _).drew) ⟨?_, ?_, ?_, ?_, ?_, ?_, ?_, ?_, ?_, ?_, ?_, ?_, ?_, ?_, ?_, ?_, ?_, ?_, ?_, ?_, ?_, trivial⟩ ?_ ?_
 ·intro g L wz K ρ hc0 hf0 hF hO hU hcl hi hd hC hK
  have e0 : ρ (.tmp 0) = .pointer (some ⟨Q.lr, 0, none⟩) := hO 0 (by kernel_rfl)
  simp [go_sem, Flow.ylP_value, Flow.ylP_skip, Flow.ylP_enter, Flow.ylP_panic, hc0, hf0, e0]
  exact hK g wz hC (fun _ _ => rfl)
 ·intro g L wz K ρ hc0 hf0 hF hO hU hcl hi hd hC hK
  have d0 : L 0 = true := hd ⟨0, .data⟩ (by simp) rfl
  have e12 : ρ (.tmp 12) = .pointer (some ⟨Q.lr, 0, none⟩) := hF 12 0 (by kernel_rfl) d0
  simp [go_sem, Flow.ylP_value, Flow.ylP_skip, Flow.ylP_enter, Flow.ylP_panic, hc0, hf0, e12]
  exact hK g wz hC (fun _ _ => rfl)
 ·intro g L wz K ρ hc0 hf0 hF hO hU hcl hi hd hC hK
  have d1 : L 1 = true := hd ⟨1, .data⟩ (by simp) rfl
  have e13 : ρ (.tmp 13) = .pointer (some ⟨Q.lr, 0, none⟩) := hF 13 1 (by kernel_rfl) d1
  simp [go_sem, Flow.ylP_value, Flow.ylP_skip, Flow.ylP_enter, Flow.ylP_panic, hc0, hf0, e13]
  exact hK g wz hC (fun _ _ => rfl)
 ·intro g L wz K ρ hc0 hf0 hF hO hU hcl hi hd hC hK
  have d2 : L 2 = true := hd ⟨2, .data⟩ (by simp) rfl
  have e14 : ρ (.tmp 14) = .pointer (some ⟨Q.lr, 1, none⟩) := hF 14 2 (by kernel_rfl) d2
  have cc := HC1.out wz hC.lk
  simp [go_sem, Flow.ylP_value, Flow.ylP_skip, Flow.ylP_enter, Flow.ylP_panic, hc0, hf0, e14, cc]
  exact hK g wz hC (fun _ _ => rfl)
 ·intro g L wz K ρ hc0 hf0 hF hO hU hcl hi hd hC hK
  have e0 : ρ (.tmp 0) = .pointer (some ⟨Q.lr, 0, none⟩) := hO 0 (by kernel_rfl)
  simp [go_sem, Flow.ylP_value, Flow.ylP_skip, Flow.ylP_enter, Flow.ylP_panic, hc0, hf0, e0]
  exact hK g wz hC (fun _ _ => rfl)
 ·intro g L wz K ρ hc0 hf0 hF hO hU hcl hi hd hC hK
  have d4 : L 4 = true := hd ⟨4, .data⟩ (by simp) rfl
  have e16 : ρ (.tmp 16) = .pointer (some ⟨Q.lr, 0, none⟩) := hF 16 4 (by kernel_rfl) d4
  simp [go_sem, Flow.ylP_value, Flow.ylP_skip, Flow.ylP_enter, Flow.ylP_panic, hc0, hf0, e16]
  exact hK g wz hC (fun _ _ => rfl)
 ·intro g L wz K ρ hc0 hf0 hF hO hU hcl hi hd hC hK
  have d5 : L 5 = true := hd ⟨5, .data⟩ (by simp) rfl
  have e17 : ρ (.tmp 17) = .pointer (some ⟨Q.lr, 0, none⟩) := hF 17 5 (by kernel_rfl) d5
  simp [go_sem, Flow.ylP_value, Flow.ylP_skip, Flow.ylP_enter, Flow.ylP_panic, hc0, hf0, e17]
  exact hK g wz hC (fun _ _ => rfl)
 ·intro g L wz K ρ hc0 hf0 hF hO hU hcl hi hd hC hK
  have d6 : L 6 = true := hd ⟨6, .data⟩ (by simp) rfl
  have e18 : ρ (.tmp 18) = .pointer (some ⟨Q.lr, 1, none⟩) := hF 18 6 (by kernel_rfl) d6
  have cc := HC1.out wz hC.lk
  simp [go_sem, Flow.ylP_value, Flow.ylP_skip, Flow.ylP_enter, Flow.ylP_panic, hc0, hf0, e18, cc]
  exact hK g wz hC (fun _ _ => rfl)
 ·intro g L wz K ρ hc0 hf0 hF hO hU hcl hi hd hC hK
  have d7 : L 7 = true := hd ⟨7, .data⟩ (by simp) rfl
  have e19 : ρ (.tmp 19) = .slice (some ⟨Q.C, 0, none⟩) n Q.c := hF 19 7 (by kernel_rfl) d7
  simp [go_sem, Flow.ylP_value, Flow.ylP_skip, Flow.ylP_enter, Flow.ylP_panic, hc0, hf0, e19]
  exact hK g wz hC (fun _ _ => rfl)
 ·intro g L wz K ρ hc0 hf0 hF hO hU hcl hi hd hC hK
  have e0 : ρ (.tmp 0) = .pointer (some ⟨Q.lr, 0, none⟩) := hO 0 (by kernel_rfl)
  simp [go_sem, Flow.ylP_value, Flow.ylP_skip, Flow.ylP_enter, Flow.ylP_panic, hc0, hf0, e0]
  exact hK g wz hC (fun _ _ => rfl)
 ·intro g L wz K ρ hc0 hf0 hF hO hU hcl hi hd hC hK
  have d9 : L 9 = true := hd ⟨9, .data⟩ (by simp) rfl
  have e21 : ρ (.tmp 21) = .pointer (some ⟨Q.lr, 0, none⟩) := hF 21 9 (by kernel_rfl) d9
  simp [go_sem, Flow.ylP_value, Flow.ylP_skip, Flow.ylP_enter, Flow.ylP_panic, hc0, hf0, e21]
  exact hK g wz hC (fun _ _ => rfl)
 ·intro g L wz K ρ hc0 hf0 hF hO hU hcl hi hd hC hK
  have d10 : L 10 = true := hd ⟨10, .data⟩ (by simp) rfl
  have e22 : ρ (.tmp 22) = .pointer (some ⟨Q.lr, 0, none⟩) := hF 22 10 (by kernel_rfl) d10
  simp [go_sem, Flow.ylP_value, Flow.ylP_skip, Flow.ylP_enter, Flow.ylP_panic, hc0, hf0, e22]
  exact hK g wz hC (fun _ _ => rfl)
 ·intro g L wz K ρ hc0 hf0 hF hO hU hcl hi hd hC hK
  have d11 : L 11 = true := hd ⟨11, .data⟩ (by simp) rfl
  have e23 : ρ (.tmp 23) = .pointer (some ⟨Q.lr, 3, none⟩) := hF 23 11 (by kernel_rfl) d11
  have cc := (hC.lk.rc 3 _ rfl).1
  simp [go_sem, Flow.ylP_value, Flow.ylP_skip, Flow.ylP_enter, Flow.ylP_panic, hc0, hf0, e23, cc]
  exact hK g wz hC (fun _ _ => rfl)
 ·intro g L wz K ρ hc0 hf0 hF hO hU hcl hi hd hC hK
  have e0 : ρ (.tmp 0) = .pointer (some ⟨Q.lr, 0, none⟩) := hO 0 (by kernel_rfl)
  simp [go_sem, Flow.ylP_value, Flow.ylP_skip, Flow.ylP_enter, Flow.ylP_panic, hc0, hf0, e0]
  exact hK g wz hC (fun _ _ => rfl)
 ·intro g L wz K ρ hc0 hf0 hF hO hU hcl hi hd hC hK
  have d13 : L 13 = true := hd ⟨13, .data⟩ (by simp) rfl
  have e25 : ρ (.tmp 25) = .pointer (some ⟨Q.lr, 0, none⟩) := hF 25 13 (by kernel_rfl) d13
  simp [go_sem, Flow.ylP_value, Flow.ylP_skip, Flow.ylP_enter, Flow.ylP_panic, hc0, hf0, e25]
  exact hK g wz hC (fun _ _ => rfl)
 ·intro g L wz K ρ hc0 hf0 hF hO hU hcl hi hd hC hK
  have d14 : L 14 = true := hd ⟨14, .data⟩ (by simp) rfl
  have e26 : ρ (.tmp 26) = .pointer (some ⟨Q.lr, 0, none⟩) := hF 26 14 (by kernel_rfl) d14
  simp [go_sem, Flow.ylP_value, Flow.ylP_skip, Flow.ylP_enter, Flow.ylP_panic, hc0, hf0, e26]
  exact hK g wz hC (fun _ _ => rfl)
 ·intro g L wz K ρ hc0 hf0 hF hO hU hcl hi hd hC hK
  have d15 : L 15 = true := hd ⟨15, .data⟩ (by simp) rfl
  have e27 : ρ (.tmp 27) = .pointer (some ⟨Q.lr, 2, none⟩) := hF 27 15 (by kernel_rfl) d15
  have cc := (hC.lk.rc 2 _ rfl).1
  simp [go_sem, Flow.ylP_value, Flow.ylP_skip, Flow.ylP_enter, Flow.ylP_panic, hc0, hf0, e27, cc]
  exact hK g wz hC (fun _ _ => rfl)
 ·intro g L wz K ρ hc0 hf0 hF hO hU hcl hi hd hC hK
  have d12 : L 12 = true := hd ⟨12, .data⟩ (by simp) rfl
  have e24 : ρ (.tmp 24) = .int .i64 (y.f : Int) := hF 24 12 (by kernel_rfl) d12
  have d16 : L 16 = true := hd ⟨16, .data⟩ (by simp) rfl
  have e28 : ρ (.tmp 28) = .int .i64 (Q.z : Int) := hF 28 16 (by kernel_rfl) d16
  simp [go_sem, Flow.ylP_value, Flow.ylP_skip, Flow.ylP_enter, Flow.ylP_panic, hc0, hf0, e24, e28, hd, hd2, hz0, hz00, w3, w4]
  exact hK g wz hC (fun _ _ => rfl)
 ·intro g L wz K ρ hc0 hf0 hF hO hU hcl hi hd hC hK
  have d8 : L 8 = true := hd ⟨8, .data⟩ (by simp) rfl
  have e20 : ρ (.tmp 20) = .int .i64 (n : Int) := hF 20 8 (by kernel_rfl) d8
  have d17 : L 17 = true := hd ⟨17, .data⟩ (by simp) rfl
  have e29 : ρ (.tmp 29) = .int .i64 (q : Int) := hF 29 17 (by kernel_rfl) d17
  simp [go_sem, Flow.ylP_value, Flow.ylP_skip, Flow.ylP_enter, Flow.ylP_panic, hc0, hf0, e20, e29, hmn]
  exact hK g wz hC (fun _ _ => rfl)
 ·intro g L wz K ρ hc0 hf0 hF hO hU hcl hi hd hC hK
  have d3 : L 3 = true := hd ⟨3, .data⟩ (by simp) rfl
  have e15 : ρ (.tmp 15) = .slice (some ⟨Q.C, 0, none⟩) n Q.c := hF 15 3 (by kernel_rfl) d3
  have d18 : L 18 = true := hd ⟨18, .data⟩ (by simp) rfl
  have e30 : ρ (.tmp 30) = .int .i64 (u : Int) := hF 30 18 (by kernel_rfl) d18
  have hsl := run_stail Q.C n Q.c u hu hna wz
  unfold execOp
  simp only [resolve, Sem.run_bind, Sem.run_pure, Result.andThen_ok, Option.map_some, Option.map_none, e15, e30, sliceAt_isS, hsl]
  exact hK g wz hC (fun _ _ => rfl)
 ·intro g L wz K ρ hc0 hf0 hF hO hU hcl hi hd hC hK
  have d19 : L 19 = true := hd ⟨19, .data⟩ (by simp) rfl
  have e31 : ρ (.tmp 31) = .slice (lkT Q.C Q.c u) (n - u) (Q.c - u) := hF 31 19 (by kernel_rfl) d19
  simp [go_sem, Flow.ylP_value, Flow.ylP_skip, Flow.ylP_enter, Flow.ylP_panic, hc0, hf0, e31]
  exact hK g wz hC (fun _ _ => rfl)
 ·intro g L ch wz h; exact h.elim
 ·intro g L wz hL hC
  simp only [Flow.putAll, rlkV]
  simp [Act.put]
  clear hS HC1 hd hd2 hz0 hz00 hmn w3 w4 W2
  have hS := hC
  clear hC
  have hrow := hS.lk.rr
  have hn4 := HN4.out
  have c0 := (hS.lk.rc 0 _ rfl).1
  have k0 := (hS.rc 0 _ rfl).1
  have k1 := (hS.rc 1 _ rfl).1
  have k2 := (hS.rc 2 _ rfl).1
  by_cases hq : u < n
  ·obtain ⟨t, ht1, ht2⟩ := HP.out.1 hq
   obtain ⟨d, hd⟩ : ∃ d, d = n - u := ⟨_, rfl⟩
   obtain ⟨M, hM⟩ : ∃ M, M = numOf N := ⟨_, rfl⟩
   obtain ⟨r, hr⟩ : ∃ r, r = M % d := ⟨_, rfl⟩
   have hrd : r < d := by rw [hr]; exact Nat.mod_lt _ (by omega)
   have hc := hrow _ t ht1
   rw [← hd, ← hM, ← hr] at hc
   have T1 : decide (d = 0) = false := decide_eq_false (by omega)
   have T2 : ((d : Int) == 0) = false := by simp; omega
   have T3 : ¬ d = 0 := by omega
   have T4 : ¬ ((d : Int) = 0) := by omega
   have M1 : Int.tmod (M : Int) (d : Int) = (r : Int) := by rw [hr]; rfl
   have M2 : (M : Int) % (d : Int) = (r : Int) := by rw [hr]; rfl
   have M3 : IntKind.u64.wrap N = (M : Int) := by rw [hM]; exact num_wrap N
   have M4 : IntKind.u64.wrap (d : Int) = (d : Int) := num_small (by omega)
   have M5 : IntKind.u64.wrap (r : Int) = (r : Int) := num_small (by omega)
   have M6 : IntKind.i64.wrap (r : Int) = (r : Int) := (w_in (r : Int) r rfl (by omega)).1
   have eT : lkT Q.C Q.c u = some ⟨Q.C, u, none⟩ := by unfold lkT; rw [if_neg (by omega)]
   have HT := Lib.hid ht2
   obtain ⟨hz1, hz2⟩ := hS.lk.sz t (pick1_mem ht2)
   rw [← hd, eT]
   clear ht1 ht2 HP hd hM hr eT hn4 hu hna HN4
   go_wp2_with fail
   refine (Turn.rturn_any t m _ (by omega) (by omega) hz1).mono ?_
   rintro e w3 ⟨rfl, hb⟩
   replace hS := hS.below hb
   clear hb c0 k0 k1 k2
   have c0 := (hS.lk.rc 0 _ rfl).1
   have k0 := (hS.rc 0 _ rfl).1
   have k1 := (hS.rc 1 _ rfl).1
   have k2 := (hS.rc 2 _ rfl).1
   obtain ⟨tt, htt⟩ : ∃ tt, tt = turnB t m := ⟨_, rfl⟩
   have HTT := Lib.hid htt
   have HT5 : Hid (tt.size ≤ 1000000) := Lib.hid (by rw [htt, turnB_size]; omega)
   rw [show (⟨(Turn.turn t.data.toList m).toArray⟩ : ByteArray) = tt from htt.symm]
   clear htt hz1 hz2
   go_wp2_with fail
   refine (both_rtake tt hS.lk.both HT5.out (by omega)).mono ?_
   rintro e w2 ⟨rfl, hb, h2, ht⟩
   replace hS := hS.to hb h2 ht
   clear hb h2 ht c0 k0 k1 k2
   go_wp2
   go_ret
   rw [HT.out]
   have eT : sentT 5 t m = tt := by rw [HTT.out]; unfold sentT; rw [if_pos rfl]
   simp only [sentE, sentS, eT]
   exact ⟨rfl, hS.done (by omega) hE⟩
  ·have hz : n - u = 0 := by omega
   have HT := Lib.hid (HP.out.2 (by omega))
   rw [hz]
   clear HP hrow
   go_wp2
   go_ret
   rw [HT.out]
   exact ⟨rfl, hS.done (by omega) hE⟩
/-- Step, any kind. -/
theorem rstep_any {w : World} {B K : Nat} {Q : LkC} {ps : List ByteArray} {x y : Lst} {G : Nat → Prop} (h : Lk w B K Q ps x y G) (kd N : Int) (m : Nat) (hm : m < 18446744073709551616) (hE : K + 5 ≤ 1000000) : Calls Tryz.prog 26 #[.pointer (some ⟨Q.lr, 0, none⟩), .agg #[.int .i64 kd, .int .i64 N, .int .u64 (m : Int)]] w fun e w' => e = .returned (.int .i64 (stepE ps Q.z y kd N m)) ∧ LkTo w B (K + 5) Q ps x (stepL ps Q.z y kd N m) G w' := by
 unfold stepE stepL
 by_cases n1 : kd = 1
 ·subst n1
  rw [if_pos (.inl rfl), if_pos (.inl rfl)]
  exact rstep1_any h N m hm hE
 by_cases n5 : kd = 5
 ·subst n5
  rw [if_pos (.inr rfl), if_pos (.inr rfl)]
  exact rstep5_any h N m hm hE
 have n15 : ¬ (kd = 1 ∨ kd = 5) := by omega
 rw [if_neg n15, if_neg n15]
 by_cases n2 : kd = 2
 ·subst n2
  rw [if_pos (.inl rfl), if_pos rfl]
  exact rstep2_any h N m hE
 by_cases n3 : kd = 3
 ·subst n3
  rw [if_pos (.inr (.inl rfl)), if_neg (by decide), if_pos rfl]
  have h4 : numOf N % 4 < 4 := Nat.mod_lt _ (by decide)
  by_cases m0 : numOf N % 4 = 0
  ·rw [show preS y.s (numOf N % 4) = y.s by unfold preS; rw [if_neg (by omega), if_neg (by omega), if_neg (by omega)]]
   exact rstep30_any h N m hm m0 hE
  by_cases m1 : numOf N % 4 = 1
  ·rw [show preS y.s (numOf N % 4) = y.s.save by unfold preS; rw [if_pos m1]]
   exact rstep31_any h N m hm m1 hE
  by_cases m2 : numOf N % 4 = 2
  ·rw [show preS y.s (numOf N % 4) = y.s.save.flush.mark by unfold preS; rw [if_neg m1, if_pos m2]]
   exact rstep32_any h N m hm m2 hE
  ·have m3 : numOf N % 4 = 3 := by omega
   rw [show preS y.s (numOf N % 4) = y.s.mark by unfold preS; rw [if_neg m1, if_neg m2, if_pos m3]]
   exact rstep33_any h N m hm m3 hE
 by_cases n4 : kd = 4
 ·subst n4
  rw [if_pos (.inr (.inr rfl)), if_neg (by decide), if_neg (by decide), if_pos rfl]
  exact rstep4_any h N m hE
 have n234 : ¬ (kd = 2 ∨ kd = 3 ∨ kd = 4) := by omega
 rw [if_neg n234, if_neg n2, if_neg n3, if_neg n4]
 exact rstep0_any h N m n1 n2 n3 n4 n5 hE
end Go.Proofs.YtfefpcdgflgaeaaGreatDoor
end

section
namespace Go.Proofs.YtfefpcdgflgaeaaGreatDoor
open Go.ChangeShapes Go.WideShapes Go.ChangeAt Go.RowKit
open Go.ChangeMaps (open_string)
section
variable {H : Type} {enc : TypeId × Value → H} {P : Program} {w : World} {base : Nat} {spare : Nat → Bool} {held : Bool}

/-- A slice whose elements' cells are k each: every element's cells are those of an x of mine. -/
theorem open_cells {α : Type} (f : α → List Value) (k : Nat) (hk0 : 0 < k) (hf : ∀ x, (f x).length = k) (ok : α → Prop) {t e fuel : Nat} {cs : List Value} {y : DataW H × List MemPlace}
  (ht : P.underlying t = some (.slice e)) (hk : P.cellsOf e = k)
  (helem : ∀ (cs : List Value) (m : Nat) (y : DataW H × List MemPlace), DataW.trod enc P w base spare held m e cs = some y → ∃ x, cs = f x ∧ ok x)
  (hfu : DataW.trod enc P w base spare held fuel t cs = some y) :
  ∃ (A : Option Addr) (n c : Nat) (l : List α), cs = [.slice A n c] ∧ n ≤ maxLen ∧ l.length = n ∧ Sl w w.heap.size k A n (l.flatMap f) ∧ ∀ x ∈ l, ok x := by
 rcases Go.Deep.open_slice ht hfu with ⟨hcs, _⟩ | ⟨a, n, c, m, n', D, Pl, hcs, _, hl, hm, hmm, _, hi⟩
 ·exact ⟨none, 0, 0, [], hcs, Nat.zero_le _, rfl, Sl.nil, fun x hx => by simp at hx⟩
 ·have hlm : n ≤ m := by rw [hmm]; split <;> omega
  obtain ⟨l, hll, hP⟩ := exists_list n (fun i x => (∀ j, j < k → w.cell? (a.add (i * k + j)) = (f x)[j]?) ∧ ok x) (fun i him => by
   obtain ⟨cs', hc, ht'⟩ := hi i (by omega)
   obtain ⟨x, rfl, hx⟩ := helem cs' n' _ ht'
   obtain ⟨_, hcl, hat⟩ := World.cells?_some hc
   rw [hk] at hat
   exact ⟨x, fun j hj => by rw [← Go.Deep.add_add]; exact hat j hj, hx⟩)
  refine ⟨some a, n, c, l, hcs, Nat.le_trans hl hm, hll, ⟨by rw [flat_len f k hf, hll], fun hn => ?_⟩, fun x hx => ?_⟩
  ·have h0 := (hP 0 _ (List.getElem?_eq_getElem (by omega : 0 < l.length))).1 0 hk0
   rw [List.getElem?_eq_getElem (by rw [hf]; exact hk0)] at h0
   have hspot := World.cell?_spot h0
   obtain ⟨b, o, sp⟩ := a
   have hsp : sp = none := by simpa [Addr.add] using hspot
   subst hsp
   have hadd : ∀ j, (⟨b, o, none⟩ : Addr).add j = ⟨b, o + j, none⟩ := fun j => by unfold Addr.add; split <;> simp_all
   refine ⟨b, o, rfl, ?_, fun j u hu => ?_⟩
   ·have := cell_lt h0
    rw [hadd] at this
    exact this
   ·obtain ⟨i, j', x, rfl, hj', hx, hu'⟩ := flat_at f k hf l j u hu
    have := (hP i x hx).1 j' hj'
    rw [hadd] at this
    rw [this, hu']
  ·obtain ⟨i, hi', rfl⟩ := List.mem_iff_getElem.1 hx
   exact (hP i _ (List.getElem?_eq_getElem hi')).2
theorem open_elems {α : Type} (f : α → List Value) (k : Nat) (hk0 : 0 < k) (hf : ∀ x, (f x).length = k) (ok : α → Prop) {r : Reach} {b0 : Nat} {t e : TypeId} {v : Value} {d : DataW H} {p : List MemPlace}
  (ht : P.underlying t = some (.slice e)) (hk : P.cellsOf e = k)
  (helem : ∀ (cs : List Value) (m : Nat) (y : DataW H × List MemPlace), DataW.trod enc P w base spare held m e cs = some y → ∃ x, cs = f x ∧ ok x)
  (hv : Value.okWide P w r b0 t v) (h : DataW.Trod enc P w base spare held t v d p) :
  ∃ (A : Option Addr) (n c : Nat) (l : List α), v = .slice A n c ∧ n ≤ maxLen ∧ l.length = n ∧ Sl w w.heap.size k A n (l.flatMap f) ∧ ∀ x ∈ l, ok x := by
 obtain ⟨A, n, c, rfl⟩ := okWide_slice ht hv
 obtain ⟨fuel, hfu⟩ := h
 obtain ⟨A', n', c', l, hcs, r⟩ := open_cells f k hk0 hf ok ht hk helem hfu
 simp [Value.cells] at hcs
 obtain ⟨rfl, rfl, rfl⟩ := hcs
 exact ⟨A, n, c, l, rfl, r⟩

/-- A struct's field of one cell. -/
theorem field1 {fs : Array Field} {cs : List Value} {xs : List (DataW H × List MemPlace)} {m : Nat} (hlen : xs.length = fs.size)
  (hg : ∀ (i : Nat) (f : Field), fs[i]? = some f → DataW.trod enc P w base spare held m f.type ((cs.drop f.offset).take (P.cellsOf f.type)) = xs[i]?) (i : Nat) (f : Field) (hf : fs[i]? = some f) :
  ∃ y, DataW.trod enc P w base spare held m f.type ((cs.drop f.offset).take (P.cellsOf f.type)) = some y := by
 have hi : i < xs.length := by rw [hlen]; exact (Array.getElem?_eq_some_iff.1 hf).1
 exact ⟨xs[i], by rw [hg i f hf, List.getElem?_eq_getElem hi]⟩
theorem take1 {cs : List Value} {o : Nat} {v : Value} (h : (cs.drop o).take 1 = [v]) : cs[o]? = some v := by
 have e : ((cs.drop o).take 1)[0]? = some v := by rw [h]; rfl
 rw [List.getElem?_take_of_lt (by omega), List.getElem?_drop] at e
 simpa using e
/-- What a struct's reading says of all its fields. -/
def Fielded (P : Program) (w : World) (base : Nat) (spare : Nat → Bool) (held : Bool) (enc : TypeId × Value → H) (fs : Array Field) (cs : List Value) : Prop :=
 ∃ m, ∀ (i : Nat) (f : Field), fs[i]? = some f → ∃ y, DataW.trod enc P w base spare held m f.type ((cs.drop f.offset).take (P.cellsOf f.type)) = some y
theorem fielded {t : TypeId} {fs : Array Field} {m : Nat} {cs : List Value} {x : DataW H × List MemPlace} (ht : P.underlying t = some (.struct fs)) (h : DataW.trod enc P w base spare held m t cs = some x) :
  cs.length = P.cellsOf t ∧ Fielded P w base spare held enc fs cs := by
 obtain ⟨xs, n, _, _, hcl, hlen, hg⟩ := DataW.trod_struct ht h
 exact ⟨hcl, n, fun i f hf => field1 hlen hg i f hf⟩
theorem field_sub {fs : Array Field} {cs : List Value} (h : Fielded P w base spare held enc fs cs) (i o T k : Nat) {f : Field} (hf : fs[i]? = some f) (hT : f.type = T) (ho : f.offset = o) (hc : P.cellsOf T = k) :
  ∃ m y, DataW.trod enc P w base spare held m T ((cs.drop o).take k) = some y := by
 obtain ⟨m, hg⟩ := h
 obtain ⟨y, hy⟩ := hg i f hf
 subst hT ho hc
 exact ⟨m, y, hy⟩
theorem field_int {fs : Array Field} {cs : List Value} (h : Fielded P w base spare held enc fs cs) (i o T : Nat) {f : Field} {k : IntKind} (hf : fs[i]? = some f) (hT : f.type = T) (ho : f.offset = o) (hu : P.underlying T = some (.int k)) (hc : P.cellsOf T = 1) :
  ∃ n, cs[o]? = some (.int k n) ∧ (Lit.int k n).wf = true := by
 obtain ⟨m, y, hy⟩ := field_sub h i o T 1 hf hT ho hc
 obtain ⟨n, e, _, wn⟩ := DataW.trod_int hu hy
 exact ⟨n, take1 e, wn⟩
end
end Go.Proofs.YtfefpcdgflgaeaaGreatDoor
end
