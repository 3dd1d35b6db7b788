/- Readers: nil receivers, zero values, Align, Peek of any number. -/
import Derived.Test.YtifolinoadllbaaL3B
namespace Go.Proofs.Ytifolinoadllbaa
open Go.RowKit
set_option linter.unusedVariables false

theorem i64_and7 (n : Int) : bits .and .i64 n 7 = n % 8 := by
  have h7 : (BitVec.ofInt 64 7).toNat = 2 ^ 3 - 1 := by decide
  have key : (BitVec.ofInt 64 n &&& BitVec.ofInt 64 7).toNat = (n % ((2 ^ 64 : Nat) : Int)).toNat % 2 ^ 3 := by
    rw [BitVec.toNat_and, BitVec.toNat_ofInt, h7, Nat.and_two_pow_sub_one_eq_mod]
  show IntKind.i64.wrap ((BitVec.ofInt 64 n &&& BitVec.ofInt 64 7).toNat : Nat) = n % 8
  rw [key, IntKind.wrap_i64]
  omega

/-! ### Nil receivers -/
theorem ftake_nil (n : Int) (w : World) : Calls Try.prog 21 #[.pointer none, .int .i64 n] w fun e w' => e = .returned (.tuple #[.int .u64 0, .int .i64 1]) ∧ w' = w := by
  go_enter Try.func21, Try.ntmps21
  go_wp2
  go_ret2
  exact ⟨rfl, rfl⟩
theorem align_nil (w : World) : Calls Try.prog 24 #[.pointer none] w fun e w' => e = .returned (.tuple #[.int .i64 0, .int .i64 1]) ∧ w' = w := by
  go_enter Try.func24, Try.ntmps24
  go_wp2
  go_ret2
  exact ⟨rfl, rfl⟩
theorem fat_nil (w : World) : Calls Try.prog 27 #[.pointer none] w fun e w' => e = .returned (.int .i64 0) ∧ w' = w := by
  go_enter Try.func27, Try.ntmps27
  go_wp2
  go_ret
  exact ⟨rfl, rfl⟩
theorem fleft_nil (w : World) : Calls Try.prog 28 #[.pointer none] w fun e w' => e = .returned (.int .i64 0) ∧ w' = w := by
  go_enter Try.func28, Try.ntmps28
  go_wp2
  go_ret
  exact ⟨rfl, rfl⟩
theorem bskip_nil (n : Int) (w : World) : Calls Try.prog 17 #[.pointer none, .int .i64 n] w fun e w' => e = .returned (.int .i64 1) ∧ w' = w := by
  go_enter Try.func17, Try.ntmps17
  go_wp2
  go_ret
  exact ⟨rfl, rfl⟩
theorem btake_nil (n : Int) (w : World) : Calls Try.prog 18 #[.pointer none, .int .i64 n] w fun e w' => e = .returned (.tuple #[.int .u64 0, .int .i64 1]) ∧ w' = w := by
  go_enter Try.func18, Try.ntmps18
  go_wp2_with fail
  refine (bskip_nil n _).mono ?_
  rintro e w1 ⟨rfl, rfl⟩
  go_wp2
  go_ret2
  exact ⟨rfl, rfl⟩
theorem bpeek_nil (n : Int) (w : World) : Calls Try.prog 14 #[.pointer none, .int .i64 n] w fun e w' => e = .returned (.int .u64 0) ∧ w' = w := by
  go_enter Try.func14, Try.ntmps14
  go_wp2
  go_ret
  exact ⟨rfl, rfl⟩
theorem bleft_nil (w : World) : Calls Try.prog 19 #[.pointer none] w fun e w' => e = .returned (.int .i64 0) ∧ w' = w := by
  go_enter Try.func19, Try.ntmps19
  go_wp2
  go_ret
  exact ⟨rfl, rfl⟩

/-! ### Align -/
/-- How many bits there are up to the next whole byte. -/
def gap (f : Nat) : Nat := (8 - f % 8) % 8
theorem gap_int (f : Nat) : -(f : Int) % 8 = (gap f : Int) := by unfold gap; omega
theorem gap_le (f : Nat) : gap f < 8 := by unfold gap; omega
theorem gap_mod (f : Nat) : (f + gap f) % 8 = 0 := by unfold gap; omega
theorem gap_top {f m : Nat} (h : f ≤ 8 * m) : f + gap f ≤ 8 * m := by unfold gap; omega

set_option maxHeartbeats 1000000 in
theorem align_bad {g m c f t : Nat} {T : TypeId} {A : Option Addr} {bs : List Nat} (w : World) (hr : Rd w g T A m c bs f t) (ht : t = 8 * m) (hv : leN bs / 2 ^ f % 2 ^ gap f ≠ 0) :
    Calls Try.prog 24 #[.pointer (some ⟨g, 0, none⟩)] w fun e w' =>
      e = .returned (.tuple #[.int .i64 0, .int .i64 14]) ∧ Below w.heap.size w w' := by
  have h1 := hr.le; have h2 := hr.top; have h3 := hr.small
  have hw1 : IntKind.i64.wrap (-(f : Int)) = -(f : Int) := IntWalk.i64_in _ (by omega)
  have hg := gap_int f
  have hgl := gap_le f
  have hgt := gap_top (show f ≤ 8 * m by omega)
  have hb : bits .and .i64 (-(f : Int)) 7 = (gap f : Int) := by rw [i64_and7, hg]
  obtain ⟨d, hd⟩ : ∃ d, d = gap f := ⟨_, rfl⟩
  rw [← hd] at hb hgl hgt hv
  obtain ⟨p, hp⟩ : ∃ p, p = leN bs / 2 ^ f % 2 ^ d := ⟨_, rfl⟩
  have HV := hide (hr.drew.value f d (by omega) (by omega))
  rw [← hp] at HV hv
  have hpz : ((p : Int) == 0) = false := by simp; omega
  have hpz' : ¬ (p : Int) = 0 := by omega
  obtain ⟨k0, k1, k2⟩ := hr.row.cells
  clear hr k0 k2 hp hd hg hv
  go_enter Try.func24, Try.ntmps24
  go_wp2
  go_still_tail 9, (by kernel_rfl)
  go_wp2_with fail
  refine HV.out.mono ?_
  rintro e w1 ⟨rfl, hb1⟩
  have HB1 := hide hb1
  clear hb1
  go_wp2
  go_ret2
  exact ⟨rfl, (Below.refl _ w).drew.trans HB1.out⟩

set_option maxHeartbeats 1000000 in
theorem align_ok {g m c f t : Nat} {T : TypeId} {A : Option Addr} {bs : List Nat} (w : World) (hr : Rd w g T A m c bs f t) (ht : t = 8 * m) (hv : leN bs / 2 ^ f % 2 ^ gap f = 0) :
    Calls Try.prog 24 #[.pointer (some ⟨g, 0, none⟩)] w fun e w' =>
      e = .returned (.tuple #[.int .i64 (((f + gap f) / 8 : Nat) : Int), .int .i64 0]) ∧ Rd w' g T A m c bs (f + gap f) t ∧ Chg (fun k => k = g) w w' := by
  have h1 := hr.le; have h2 := hr.top; have h3 := hr.small
  have hw1 : IntKind.i64.wrap (-(f : Int)) = -(f : Int) := IntWalk.i64_in _ (by omega)
  have hg := gap_int f
  have hgl := gap_le f
  have hgt := gap_top (show f ≤ 8 * m by omega)
  have hb : bits .and .i64 (-(f : Int)) 7 = (gap f : Int) := by rw [i64_and7, hg]
  obtain ⟨d, hd⟩ : ∃ d, d = gap f := ⟨_, rfl⟩
  rw [← hd] at hb hgl hgt hv ⊢
  have hv1 := hr.drew.value f d (by omega) (by omega)
  rw [hv] at hv1
  have HV := hide hv1
  have hw2 : IntKind.i64.wrap ((f : Int) + (d : Int)) = ((f + d : Nat) : Int) := by rw [IntWalk.i64_in _ (by omega)]; omega
  obtain ⟨k0, k1, k2⟩ := hr.row.cells
  have HR := hide hr
  have HT := hide (show f + d ≤ t by omega)
  obtain ⟨s, hs⟩ : ∃ s, s = f + d := ⟨_, rfl⟩
  rw [← hs] at hw2 HT ⊢
  have hs64 : s < 1000000000000 := by omega
  have hq : (s : Int).tdiv 8 = ((s / 8 : Nat) : Int) := by
    rw [Int.tdiv_eq_ediv_of_nonneg (by omega)]; omega
  have hw3 : IntKind.i64.wrap ((s / 8 : Nat) : Int) = ((s / 8 : Nat) : Int) := IntWalk.i64_in _ (by omega)
  clear hr k0 k2 hd hg hv hv1 hs
  go_enter Try.func24, Try.ntmps24
  go_wp2
  go_still_tail 9, (by kernel_rfl)
  go_wp2_with fail
  refine HV.out.mono ?_
  rintro e w1 ⟨rfl, hb1⟩
  have hr1 := HR.out.drew.below hb1
  have HR2 := hide (hr1.set1 (f' := s) HT.out)
  obtain ⟨j0, j1, j2⟩ := hr1.row.cells
  have jf := frozen_blk hr1.row 1
  obtain ⟨i0, i1, i2⟩ := HR2.out.row.cells
  have HB1 := hide hb1
  clear hb1 hr1 j0 j2 i0 i2
  go_wp2
  go_ret2
  refine ⟨?_, HR2.out, ((Chg.of_below (S := fun k => k = g) ((Below.refl _ w).drew.trans HB1.out))).setCell (p := ⟨g, 1, none⟩) (.inl rfl) _⟩
  first | rfl | (congr 3; omega)

/-- What Align gives: the index of the byte, the error, the place. -/
def oA (N f : Nat) : Nat × Int × Nat := if N / 2 ^ f % 2 ^ gap f = 0 then ((f + gap f) / 8, 0, f + gap f) else (0, 14, f)

theorem align_out {w : World} {lo hi g : Nat} {T : TypeId} {bs : List Nat} {f t : Nat} (h : Rdr w lo hi g T bs f t) (ht : t = 8 * bs.length) :
    Calls Try.prog 24 #[.pointer (some ⟨g, 0, none⟩)] w fun e w' =>
      e = .returned (.tuple #[.int .i64 (((oA (leN bs) f).1 : Nat) : Int), .int .i64 (oA (leN bs) f).2.1]) ∧ Rdr w' lo hi g T bs (oA (leN bs) f).2.2 t ∧ Chg (fun k => k = g) w w' := by
  have h0 := h
  obtain ⟨A, m, c, hr, h1, h2, h3, h4⟩ := h
  by_cases hz : leN bs / 2 ^ f % 2 ^ gap f = 0
  · have e : oA (leN bs) f = ((f + gap f) / 8, 0, f + gap f) := by unfold oA; rw [if_pos hz]
    rw [e]
    exact (align_ok w hr (by rw [hr.len]; exact ht) hz).mono fun e w' ⟨he, hr', hc⟩ => ⟨he, ⟨A, m, c, hr', h1, h2, Nat.le_trans h3 hc.size, h4⟩, hc⟩
  · have e : oA (leN bs) f = (0, 14, f) := by unfold oA; rw [if_neg hz]
    rw [e]
    exact (align_bad w hr (by rw [hr.len]; exact ht) hz).mono fun e w' ⟨he, hb⟩ => ⟨he, h0.below hb, .of_below hb⟩

/-! ### A zero value -/
theorem rdr_zero (w : World) (T : TypeId) : Rdr (w.alloc (.cells #[.slice none 0 0, .int .i64 0, .int .i64 0] T (0, 0))) w.heap.size (w.heap.size + 1) w.heap.size T [] 0 0 :=
  ⟨none, 0, 0, ⟨alloc_new w _ rfl, Reads.none_, by simp, by simp, rfl, Nat.le_refl _, Nat.zero_le _, by omega⟩, Nat.le_refl _, by omega, by simp, by simp⟩
end Go.Proofs.Ytifolinoadllbaa
