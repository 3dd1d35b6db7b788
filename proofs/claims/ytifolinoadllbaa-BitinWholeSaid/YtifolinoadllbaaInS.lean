/- Package bitin walked: Backward's methods, Forward.At, Left. -/
import Derived.Test.YtifolinoadllbaaInR
namespace Go.Proofs.Ytifolinoadllbaa
open Go.RowKit
set_option linter.unusedVariables false

theorem fat_any {g m c f t : Nat} {T : TypeId} {A : Option Addr} {bs : List Nat} (w : World) (hr : Rd w g T A m c bs f t) :
    Calls Try.prog 27 #[.pointer (some ⟨g, 0, none⟩)] w fun e w' => e = .returned (.int .i64 f) ∧ ∃ k, w' = w.drewN k := by
  obtain ⟨k0, k1, k2⟩ := hr.row.cells
  clear hr
  go_enter Try.func27, Try.ntmps27
  go_wp2
  go_ret
  exact ⟨rfl, 0, rfl⟩

theorem fleft_any {g m c f t : Nat} {T : TypeId} {A : Option Addr} {bs : List Nat} (w : World) (hr : Rd w g T A m c bs f t) :
    Calls Try.prog 28 #[.pointer (some ⟨g, 0, none⟩)] w fun e w' => e = .returned (.int .i64 ((t - f : Nat) : Int)) ∧ ∃ k, w' = w.drewN k := by
  have h1 := hr.le; have h2 := hr.top; have h3 := hr.small
  have HL := hide (left_any w hr.row (by omega) (by omega) (by omega))
  clear hr
  go_enter Try.func28, Try.ntmps28
  go_wp2_with fail
  refine HL.out.mono ?_
  rintro e w1 ⟨rfl, k, rfl⟩
  go_wp2
  go_ret
  exact ⟨ret_int (by omega), k, rfl⟩

theorem bleft_any {g m c f t : Nat} {T : TypeId} {A : Option Addr} {bs : List Nat} (w : World) (hr : Rd w g T A m c bs f t) :
    Calls Try.prog 19 #[.pointer (some ⟨g, 0, none⟩)] w fun e w' => e = .returned (.int .i64 ((t - f : Nat) : Int)) ∧ ∃ k, w' = w.drewN k := by
  have h1 := hr.le; have h2 := hr.top; have h3 := hr.small
  have HL := hide (left_any w hr.row (by omega) (by omega) (by omega))
  clear hr
  go_enter Try.func19, Try.ntmps19
  go_wp2_with fail
  refine HL.out.mono ?_
  rintro e w1 ⟨rfl, k, rfl⟩
  go_wp2
  go_ret
  exact ⟨ret_int (by omega), k, rfl⟩

set_option maxHeartbeats 400000 in
theorem bskip_bad {g : Nat} (w : World) (n : Int) (h : n < 0 ∨ (0 ≤ n ∧ 64 < n)) :
    Calls Try.prog 17 #[.pointer (some ⟨g, 0, none⟩), .int .i64 n] w fun e w' => e = .returned (.int .i64 2) ∧ ∃ k, w' = w.drewN k := by
  have HM := hide (may_bad (g := g) w n 14 h)
  clear h
  go_enter Try.func17, Try.ntmps17
  go_wp2_with fail
  refine HM.out.mono ?_
  rintro e w1 ⟨rfl, k, rfl⟩
  go_wp2
  go_ret
  exact ⟨rfl, k, rfl⟩

set_option maxHeartbeats 400000 in
theorem bskip_short {g m c f t : Nat} {T : TypeId} {A : Option Addr} {bs : List Nat} (w : World) (hr : Rd w g T A m c bs f t) (n : Nat) (h64 : n ≤ 64) (hs : t < f + n) :
    Calls Try.prog 17 #[.pointer (some ⟨g, 0, none⟩), .int .i64 n] w fun e w' => e = .returned (.int .i64 14) ∧ ∃ k, w' = w.drewN k := by
  have h1 := hr.le; have h2 := hr.top; have h3 := hr.small
  have HM := hide (may_short w n 14 hr.row (by omega) (by omega) (by omega) (by omega) (by omega) (by omega))
  clear hr
  go_enter Try.func17, Try.ntmps17
  go_wp2_with fail
  refine HM.out.mono ?_
  rintro e w1 ⟨rfl, k, rfl⟩
  go_wp2
  go_ret
  exact ⟨rfl, k, rfl⟩

set_option maxHeartbeats 1000000 in
theorem bskip_ok {g m c f t t' : Nat} {T : TypeId} {A : Option Addr} {bs : List Nat} (w : World) (hr : Rd w g T A m c bs f t) (n : Nat) (h64 : n ≤ 64) (ht : t' + n = t) (hs : f ≤ t') :
    Calls Try.prog 17 #[.pointer (some ⟨g, 0, none⟩), .int .i64 n] w fun e w' =>
      e = .returned (.int .i64 0) ∧ Rd w' g T A m c bs f t' ∧ Chg (fun k => k = g) w w' := by
  have h1 := hr.le; have h2 := hr.top; have h3 := hr.small
  have HM := hide (may_ok w n 14 hr.row (by omega) (by omega) (by omega) (by omega) (by omega) (by omega))
  obtain ⟨k0, k1, k2⟩ := hr.row.cells
  have kf := frozen_blk hr.row 2
  have HR := hide hr
  have hw1 : IntKind.i64.wrap ((t : Int) - (n : Int)) = (t' : Int) := by rw [IntWalk.i64_in _ (by omega)]; omega
  have HT := hide (show t' ≤ t by omega)
  clear hr k0 k1 ht
  go_enter Try.func17, Try.ntmps17
  go_wp2_with fail
  refine HM.out.mono ?_
  rintro e w1 ⟨rfl, k, rfl⟩
  go_wp2
  go_ret
  exact ⟨rfl, (HR.out.drewN k).set2 hs HT.out, ((Chg.refl (fun k => k = g) w).drewN k).setCell (p := ⟨g, 2, none⟩) (.inl rfl) _⟩

set_option maxHeartbeats 400000 in
theorem btake_bad {g : Nat} (w : World) (n : Int) (h : n < 0 ∨ (0 ≤ n ∧ 64 < n)) :
    Calls Try.prog 18 #[.pointer (some ⟨g, 0, none⟩), .int .i64 n] w fun e w' => e = .returned (.tuple #[.int .u64 0, .int .i64 2]) ∧ ∃ k, w' = w.drewN k := by
  have HM := hide (bskip_bad (g := g) w n h)
  clear h
  go_enter Try.func18, Try.ntmps18
  go_wp2_with fail
  refine HM.out.mono ?_
  rintro e w1 ⟨rfl, k, rfl⟩
  go_wp2
  go_ret2
  exact ⟨rfl, k, rfl⟩

set_option maxHeartbeats 400000 in
theorem btake_short {g m c f t : Nat} {T : TypeId} {A : Option Addr} {bs : List Nat} (w : World) (hr : Rd w g T A m c bs f t) (n : Nat) (h64 : n ≤ 64) (hs : t < f + n) :
    Calls Try.prog 18 #[.pointer (some ⟨g, 0, none⟩), .int .i64 n] w fun e w' => e = .returned (.tuple #[.int .u64 0, .int .i64 14]) ∧ ∃ k, w' = w.drewN k := by
  have HM := hide (bskip_short w hr n h64 hs)
  clear hr
  go_enter Try.func18, Try.ntmps18
  go_wp2_with fail
  refine HM.out.mono ?_
  rintro e w1 ⟨rfl, k, rfl⟩
  go_wp2
  go_ret2
  exact ⟨rfl, k, rfl⟩

set_option maxHeartbeats 1000000 in
theorem btake_ok {g m c f t t' : Nat} {T : TypeId} {A : Option Addr} {bs : List Nat} (w : World) (hr : Rd w g T A m c bs f t) (n : Nat) (h64 : n ≤ 64) (ht : t' + n = t) (hs : f ≤ t') :
    Calls Try.prog 18 #[.pointer (some ⟨g, 0, none⟩), .int .i64 n] w fun e w' =>
      e = .returned (.tuple #[.int .u64 ((leN bs / 2 ^ t' % 2 ^ n : Nat) : Int), .int .i64 0]) ∧ Rd w' g T A m c bs f t' ∧ Chg (fun k => k = g) w w' := by
  have HM := hide (bskip_ok w hr n h64 ht hs)
  have hv := fun w1 (h1 : Rd w1 g T A m c bs f t) (h2 : Rd w1 g T A m c bs f t') => value_any (at_ := t') (n := n) w1 h2.row h2.reads h2.byte h2.len h64 (by have := h1.top; omega) h2.small
  have hv2 : ∀ w1, Rd w1 g T A m c bs f t' → Calls Try.prog 37 #[.pointer (some ⟨g, 0, none⟩), .int .i64 t', .int .i64 n] w1
      fun e w' => e = .returned (.int .u64 ((leN bs / 2 ^ t' % 2 ^ n : Nat) : Int)) ∧ Below w1.heap.size w1 w' :=
    fun w1 h2 => value_any (at_ := t') (n := n) w1 h2.row h2.reads h2.byte h2.len h64 (by have := hr.top; omega) h2.small
  have HV := hide hv2
  clear hr hv hv2 ht
  go_enter Try.func18, Try.ntmps18
  go_wp2_with fail
  refine HM.out.mono ?_
  rintro e w1 ⟨rfl, hr1, hc1⟩
  obtain ⟨k0, k1, k2⟩ := hr1.row.cells
  have HR1 := hide hr1
  have HC1 := hide hc1
  clear hr1 hc1 k0 k1
  go_wp2
  go_still_tail 9, (by kernel_rfl)
  go_wp2_with fail
  refine (HV.out _ HR1.out.drew).mono ?_
  rintro e w2 ⟨rfl, hb2⟩
  have HB2 := hide hb2
  clear hb2
  go_wp2
  go_ret2
  exact ⟨rfl, HR1.out.drew.below HB2.out, HC1.out.drew.trans (.of_below HB2.out) (fun _ h => .inl h)⟩
end Go.Proofs.Ytifolinoadllbaa
