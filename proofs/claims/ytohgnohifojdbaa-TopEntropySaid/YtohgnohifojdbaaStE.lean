/- portmanteauref07.Same walked. -/
import Derived.Test.YtohgnohifojdbaaCeD
import Derived.Test.YtohgnohifojdbaaStA
namespace Go.Proofs.Ytohgnohifojdbaa
set_option maxRecDepth 8000
open Go.RowKit Go
set_option linter.unusedVariables false

set_option maxRecDepth 8000 in
set_option maxHeartbeats 4000000 in
theorem tsame_any (l1 l2 : Int) (A1 A2 : Option Addr) (n1 c1 n2 c2 : Nat) (xs ys : List Int) (w : World) (h1 : Reads w w.heap.size 1 A1 n1 (xs.map (Value.int .i64))) (h2 : Reads w w.heap.size 1 A2 n2 (ys.map (Value.int .i64))) (e1 : xs.length = n1) (e2 : ys.length = n2) (lm : n1 ≤ 1000000000) :
    Calls Try.prog 12 #[.agg #[.int .i64 l1, .slice A1 n1 c1], .agg #[.int .i64 l2, .slice A2 n2 c2]] w fun e w' => e = .returned (.bool (decide (l1 = l2 ∧ xs = ys))) ∧ Below w.heap.size w w' := by
  obtain ⟨W0, hW0⟩ : ∃ W0, W0 = (w.alloc (.cells #[.int .i64 l1, .slice A1 n1 c1] 28 (0, 0))).alloc (.cells #[.int .i64 l2, .slice A2 n2 c2] 28 (0, 0)) := ⟨_, rfl⟩
  have b0 : Below w.heap.size w W0 := by rw [hW0]; exact ((Below.refl w.heap.size w).alloc (Nat.le_refl _) _).alloc (by simp) _
  have s0 : W0.heap.size = w.heap.size + 1 + 1 := by rw [hW0]; simp
  have g1 : W0.heap[w.heap.size]? = some (.cells #[.int .i64 l1, .slice A1 n1 c1] 28 (0, 0)) := by rw [hW0]; exact heap_alloc2_old w _ _
  have g2 : W0.heap[w.heap.size + 1]? = some (.cells #[.int .i64 l2, .slice A2 n2 c2] 28 (0, 0)) := by rw [hW0]; exact heap_alloc2_new w _ _
  have k10 := cell_blk g1 0
  have k11 := cell_blk g1 1
  have k20 := cell_blk g2 0
  have k21 := cell_blk g2 1
  have R1 := hide (h1.below b0)
  have R2 := hide (h2.below b0)
  have L1 := hide e1
  have L2 := hide e2
  have HB := hide b0
  have HW0 := hide hW0
  clear b0 s0 h1 h2 e1 e2 hW0 g1 g2
  by_cases hl : l1 = l2
  · subst hl
    have hlb : (l1 != l1) = false := by simp
    by_cases hne : n1 = n2
    · subst hne
      have hz : ((n1 : Int) != (n1 : Int)) = false := by simp
      go_enter Try.func12, Try.ntmps12
      go_wp2_with fail
      try rw [← HW0.out]
      go_wp2
      go_loopw [5] (fun i wr => ∃ k : Nat, k ≤ n1 ∧ i = .int .i64 k ∧ xs.take k = ys.take k ∧ ∃ j, wr = W0.drewN j) (fun i _ => n1 - (intOf i).toNat)
      case atStart => exact ⟨0, Nat.zero_le _, rfl, by simp, 0, rfl⟩
      case round =>
        obtain ⟨k, hk, rfl, hpre, j, rfl⟩ := hrel
        have HP := hide hpre
        clear hpre
        by_cases hlt : k < n1
        · obtain ⟨b1, o1, x, rfl, hb1, k1, hx⟩ := int_cells R1.out hlt
          obtain ⟨b2, o2, y, rfl, hb2, k2, hy⟩ := int_cells R2.out hlt
          have HX := hide hx
          have HY := hide hy
          clear hx hy
          have hkn : (k : Int) < (n1 : Int) := by omega
          by_cases hxy : x = y
          · subst hxy
            have hxx : (x != x) = false := by simp
            go_wp2
            go_quiet (fail)
            go_wp2
            go_roundw
            case rel => exact ⟨k + 1, by omega, by go_num, by rw [take_snoc_some HX.out, take_snoc_some HY.out, HP.out], _, rfl⟩
            case measure => simp [intOf]; omega
          · have hf : decide (l1 = l1 ∧ xs = ys) = false := by
              simp only [decide_eq_false_iff_not, true_and]
              intro h
              have h1 := HX.out
              rw [h, HY.out] at h1
              injection h1 with h1
              exact hxy h1.symm
            have HF := hide hf
            have hxx : (x != y) = true := by simp [hxy]
            clear hf hxy
            go_wp2
            go_quiet (fail)
            go_wp2
            go_ret
            exact ⟨ret_bool (by simpa using HF.out), HB.out.trans (below_drewN (below_drewN (Below.refl _ _) _) _)⟩
        · obtain rfl : k = n1 := by omega
          go_wp2
          go_ret
          have hp := HP.out
          rw [← L1.out, List.take_length, L1.out, ← L2.out, List.take_length] at hp
          exact ⟨ret_bool (by simp [hp]), HB.out.trans (below_drewN (Below.refl _ _) _)⟩
    · have hz : ((n1 : Int) != (n2 : Int)) = true := by simp; omega
      have hf : decide (l1 = l1 ∧ xs = ys) = false := by
        simp only [decide_eq_false_iff_not, true_and]
        rintro rfl
        have := L1.out
        have := L2.out
        omega
      have HF := hide hf
      clear hf
      go_enter Try.func12, Try.ntmps12
      go_wp2_with fail
      try rw [← HW0.out]
      go_wp2
      go_ret
      exact ⟨ret_bool (by simpa using HF.out), HB.out⟩
  · have hz : (l1 != l2) = true := by simp [hl]
    have hf : decide (l1 = l2 ∧ xs = ys) = false := by simp [hl]
    have HF := hide hf
    clear hf hl
    go_enter Try.func12, Try.ntmps12
    go_wp2_with fail
    try rw [← HW0.out]
    go_wp2
    go_ret
    exact ⟨ret_bool HF.out.symm, HB.out⟩
end Go.Proofs.Ytohgnohifojdbaa
