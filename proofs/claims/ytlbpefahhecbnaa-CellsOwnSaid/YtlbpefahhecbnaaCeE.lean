/- portmanteauref07.Same, cells.SingleSymbol, portmanteauref09.One walked. -/
import Derived.Test.YtlbpefahhecbnaaCeD
import Derived.Test.YtlbpefahhecbnaaCeB
namespace Go.Proofs.Ytlbpefahhecbnaa
open Go.RowKit Go
set_option linter.unusedVariables false

set_option maxRecDepth 4000 in
set_option maxHeartbeats 4000000 in
theorem tsame_any (l1 l2 : Int) (A1 A2 : Option Addr) (n1 c1 n2 c2 : Nat) (xs ys : List Int) (w : World) (h1 : Reads w w.heap.size 1 A1 n1 (xs.map (Value.int .i64))) (h2 : Reads w w.heap.size 1 A2 n2 (ys.map (Value.int .i64))) (e1 : xs.length = n1) (e2 : ys.length = n2) (lm : n1 ≤ 1000000000) :
    Calls Try.prog 22 #[.agg #[.int .i64 l1, .slice A1 n1 c1], .agg #[.int .i64 l2, .slice A2 n2 c2]] w fun e w' => e = .returned (.bool (decide (l1 = l2 ∧ xs = ys))) ∧ Below w.heap.size w w' := by
  obtain ⟨W0, hW0⟩ : ∃ W0, W0 = (w.alloc (.cells #[.int .i64 l1, .slice A1 n1 c1] 24 (0, 0))).alloc (.cells #[.int .i64 l2, .slice A2 n2 c2] 24 (0, 0)) := ⟨_, rfl⟩
  have b0 : Below w.heap.size w W0 := by rw [hW0]; exact ((Below.refl w.heap.size w).alloc (Nat.le_refl _) _).alloc (by simp) _
  have s0 : W0.heap.size = w.heap.size + 1 + 1 := by rw [hW0]; simp
  have g1 : W0.heap[w.heap.size]? = some (.cells #[.int .i64 l1, .slice A1 n1 c1] 24 (0, 0)) := by rw [hW0]; exact heap_alloc2_old w _ _
  have g2 : W0.heap[w.heap.size + 1]? = some (.cells #[.int .i64 l2, .slice A2 n2 c2] 24 (0, 0)) := by rw [hW0]; exact heap_alloc2_new w _ _
  have k10 := cell_blk g1 0
  have k11 := cell_blk g1 1
  have k20 := cell_blk g2 0
  have k21 := cell_blk g2 1
  have R1 := hide (h1.below b0)
  have R2 := hide (h2.below b0)
  have L1 := hide e1
  have L2 := hide e2
  have HB := hide b0
  have HW0 := hide hW0
  clear b0 s0 h1 h2 e1 e2 hW0 g1 g2
  by_cases hl : l1 = l2
  · subst hl
    have hlb : (l1 != l1) = false := by simp
    by_cases hne : n1 = n2
    · subst hne
      have hz : ((n1 : Int) != (n1 : Int)) = false := by simp
      go_enter Try.func22, Try.ntmps22
      go_wp2_with fail
      try rw [← HW0.out]
      go_wp2
      go_loopw [5] (fun i wr => ∃ k : Nat, k ≤ n1 ∧ i = .int .i64 k ∧ xs.take k = ys.take k ∧ ∃ j, wr = W0.drewN j) (fun i _ => n1 - (intOf i).toNat)
      case atStart => exact ⟨0, Nat.zero_le _, rfl, by simp, 0, rfl⟩
      case round =>
        obtain ⟨k, hk, rfl, hpre, j, rfl⟩ := hrel
        have HP := hide hpre
        clear hpre
        by_cases hlt : k < n1
        · obtain ⟨b1, o1, x, rfl, hb1, k1, hx⟩ := int_cells R1.out hlt
          obtain ⟨b2, o2, y, rfl, hb2, k2, hy⟩ := int_cells R2.out hlt
          have HX := hide hx
          have HY := hide hy
          clear hx hy
          have hkn : (k : Int) < (n1 : Int) := by omega
          by_cases hxy : x = y
          · subst hxy
            have hxx : (x != x) = false := by simp
            go_wp2
            go_quiet (fail)
            go_wp2
            go_roundw
            case rel => exact ⟨k + 1, by omega, by go_num, by rw [take_snoc_some HX.out, take_snoc_some HY.out, HP.out], _, rfl⟩
            case measure => simp [intOf]; omega
          · have hf : decide (l1 = l1 ∧ xs = ys) = false := by
              simp only [decide_eq_false_iff_not, true_and]
              intro h
              have h1 := HX.out
              rw [h, HY.out] at h1
              injection h1 with h1
              exact hxy h1.symm
            have HF := hide hf
            have hxx : (x != y) = true := by simp [hxy]
            clear hf hxy
            go_wp2
            go_quiet (fail)
            go_wp2
            go_ret
            exact ⟨ret_bool (by simpa using HF.out), HB.out.trans (below_drewN (below_drewN (Below.refl _ _) _) _)⟩
        · obtain rfl : k = n1 := by omega
          go_wp2
          go_ret
          have hp := HP.out
          rw [← L1.out, List.take_length, L1.out, ← L2.out, List.take_length] at hp
          exact ⟨ret_bool (by simp [hp]), HB.out.trans (below_drewN (Below.refl _ _) _)⟩
    · have hz : ((n1 : Int) != (n2 : Int)) = true := by simp; omega
      have hf : decide (l1 = l1 ∧ xs = ys) = false := by
        simp only [decide_eq_false_iff_not, true_and]
        rintro rfl
        have := L1.out
        have := L2.out
        omega
      have HF := hide hf
      clear hf
      go_enter Try.func22, Try.ntmps22
      go_wp2_with fail
      try rw [← HW0.out]
      go_wp2
      go_ret
      exact ⟨ret_bool (by simpa using HF.out), HB.out⟩
  · have hz : (l1 != l2) = true := by simp [hl]
    have hf : decide (l1 = l2 ∧ xs = ys) = false := by simp [hl]
    have HF := hide hf
    clear hf hl
    go_enter Try.func22, Try.ntmps22
    go_wp2_with fail
    try rw [← HW0.out]
    go_wp2
    go_ret
    exact ⟨ret_bool HF.out.symm, HB.out⟩

/-- The norms of the table with the single symbol s. -/
def oneL (s : Nat) : List Int := List.replicate s 0 ++ [1]
theorem oneL_length (s : Nat) : (oneL s).length = s + 1 := by simp [oneL]

theorem single_bad (z : Int) (w : World) (h : z < 0 ∨ (¬ z < 0 ∧ 255 < z)) :
    Calls Try.prog 21 #[.int .i64 z] w fun e w' => e = .returned (.tuple #[.agg #[.int .i64 0, .slice none 0 0], .int .i64 2]) ∧ Below w.heap.size w w' := by
  obtain ⟨W0, hW0⟩ : ∃ W0, W0 = w.alloc (.cells #[.int .i64 0, .slice none 0 0] 24 (0, 0)) := ⟨_, rfl⟩
  have b0 : Below w.heap.size w W0 := by rw [hW0]; exact (Below.refl w.heap.size w).alloc (Nat.le_refl _) _
  have g0 : W0.heap[w.heap.size]? = some (.cells #[.int .i64 0, .slice none 0 0] 24 (0, 0)) := by rw [hW0]; exact heap_alloc_new w _
  have k0 := cell_blk g0 0
  have k1 := cell_blk g0 1
  have HB := hide b0
  have HW0 := hide hW0
  clear b0 hW0
  rcases h with h | ⟨h, h'⟩
  all_goals
    go_enter Try.func21, Try.ntmps21
    go_wp2_with fail
    try rw [← HW0.out]
    go_wp2
    refine bodyPost_ret (v := .tuple #[.agg #[.int .i64 0, .slice none 0 0], .int .i64 2]) ?_ rfl ⟨rfl, HB.out⟩
    simp only [results, Try.results21, go_sem]
    simp [k0, k1, go_sem]

set_option maxRecDepth 4000 in
set_option maxHeartbeats 2000000 in
theorem single_ok (s : Nat) (w : World) (h : s ≤ 255) :
    Calls Try.prog 21 #[.int .i64 (s : Int)] w fun e w' => ∃ v, e = .returned (.tuple #[.agg #[.int .i64 0, v], .int .i64 0]) ∧ w'.ownsRow w.heap.size 3 1 v (s + 1) ((oneL s).map (Value.int .i64)) ∧ Below w.heap.size w w' := by
  obtain ⟨i0, hi, hz0, hz1, hz2⟩ := info_parts info_int
  obtain ⟨W0, hW0⟩ : ∃ W0, W0 = w.alloc (.cells #[.int .i64 0, .slice none 0 0] 24 (0, 0)) := ⟨_, rfl⟩
  have b0 : Below w.heap.size w W0 := by rw [hW0]; exact (Below.refl w.heap.size w).alloc (Nat.le_refl _) _
  have g0 : W0.heap[w.heap.size]? = some (.cells #[.int .i64 0, .slice none 0 0] 24 (0, 0)) := by rw [hW0]; exact heap_alloc_new w _
  have s0 : W0.heap.size = w.heap.size + 1 := by rw [hW0]; simp
  have hw1 : IntKind.i64.wrap ((s : Int) + 1) = ((s + 1 : Nat) : Int) := by rw [IntWalk.i64_in _ (by omega)]; omega
  obtain ⟨m, hm⟩ : ∃ m, m = s + 1 := ⟨_, rfl⟩
  rw [← hm] at hw1 ⊢
  obtain ⟨w1, hmk, hown, hg⟩ := run_make_full (P := Try.prog) W0 w.heap.size 22 3 i0 (.int .i64 0) 1 Try.underlying22 hi hz0 hz1 .i64 .i64 m (by rw [hz2]; omega) (by unfold maxLen; omega) (by omega)
  obtain ⟨G, hG⟩ : ∃ G, G = W0.heap.size := ⟨_, rfl⟩
  rw [← hG] at hmk hown
  have hcell : (madeCells (Value.int IntKind.i64 0).cells (m * 1)).toList = (List.replicate m (0 : Int)).map (Value.int .i64) := by
    rw [Nat.mul_one, List.map_replicate]
    exact toList_madeCells_one _ _
  rw [hcell] at hown
  have g1 : w1.heap[w.heap.size]? = some (.cells #[.int .i64 0, .slice none 0 0] 24 (0, 0)) := (hg.block _ (by omega) (by simp)).trans g0
  have hne : w.heap.size ≠ G := by omega
  have hge : w.heap.size ≤ G := by omega
  have hss : s < m := by omega
  have kk := hown.cellAt s (by omega)
  have hget : ((List.replicate m (0 : Int)).map (Value.int .i64))[s]? = some (.int .i64 0) := by simp [hss]
  rw [hget] at kk
  have kf := hown.frozenAt s
  have hsm : (s : Int) < (m : Int) := by omega
  have HW0 := hide hW0
  have HO := hide hown
  have HB := hide (b0.trans ((((Chg.of_grown hg).mono (T := fun _ => False) (fun q hq => by cases hq)).keep).mono (by omega)))
  have HM := hide hm
  have n1 : ¬ (s : Int) < 0 := by omega
  have n2 : ¬ 255 < (s : Int) := by omega
  have r0 := cell_blk g1 0
  have r1 := cell_blk g1 1
  have q0 := frozen_blk g1 0
  have q1 := frozen_blk g1 1
  obtain ⟨w2, hw2⟩ : ∃ w2, w2 = w1.setCell ⟨G, s, none⟩ (.int .i64 1) := ⟨_, rfl⟩
  have g2 : w2.heap[w.heap.size]? = some (.cells #[.int .i64 0, .slice none 0 0] 24 (0, 0)) := by rw [hw2]; exact set_far g1 hne _
  have u0 := cell_blk g2 0
  have u1 := cell_blk g2 1
  have p0 := frozen_blk g2 0
  have p1 := frozen_blk g2 1
  have p1' : (w2.setCell ⟨w.heap.size, 0, none⟩ (.int .i64 0)).frozen? ⟨w.heap.size, 1, none⟩ = false := frozen_blk (set_blk g2 0 _) 1
  have u1' := cell_blk (set_blk g2 0 (.int .i64 0)) 1
  have HW2 := hide hw2
  clear hW0 hown hg b0 g0 hm hcell hget hi hz0 hz1 hz2 s0 hG hw2
  go_enter Try.func21, Try.ntmps21
  go_wp2_with fail
  try rw [← HW0.out]
  go_wp2
  rw [hmk]
  go_wp2
  try rw [← HW2.out]
  go_wp2
  refine bodyPost_ret (v := .tuple #[.agg #[.int .i64 0, .slice (some ⟨G, 0, none⟩) m m], .int .i64 0]) ?_ rfl ⟨_, rfl, ?_, ?_⟩
  · simp only [results, Try.results21, go_sem]
    have z0 := cell_blk (set_blk (set_blk g2 0 (.int .i64 0)) 1 (.slice (some ⟨G, 0, none⟩) m m)) 0
    have z1 := cell_blk (set_blk (set_blk g2 0 (.int .i64 0)) 1 (.slice (some ⟨G, 0, none⟩) m m)) 1
    simp [z0, z1, go_sem]
  · have ho := (HO.out.stored s (.int .i64 1)).1
    rw [← HW2.out] at ho
    have ho2 := ownsRow_setCell_other (ownsRow_setCell_other ho (a := ⟨w.heap.size, 0, none⟩) (by simp [Value.ownBlock]; omega) (.int .i64 0)) (a := ⟨w.heap.size, 1, none⟩) (by simp [Value.ownBlock]; omega) (.slice (some ⟨G, 0, none⟩) m m)
    have e1 : ((List.replicate m (0 : Int)).map (Value.int .i64)).set s (.int .i64 1) = (oneL s).map (Value.int .i64) := by
      rw [← List.map_set, HM.out]
      congr 1
      unfold oneL
      rw [List.replicate_succ', List.set_append_right _ _ (by simp)]
      simp
    rw [e1] at ho2
    exact ho2
  · have h2 : Below w.heap.size w w2 := by rw [HW2.out]; exact HB.out.setCell (by show w.heap.size ≤ G; omega) _
    exact (h2.setCell (Nat.le_refl _) _).setCell (Nat.le_refl _) _
end Go.Proofs.Ytlbpefahhecbnaa
