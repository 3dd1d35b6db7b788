/- cells.Next and portmanteauref09.Next walked. -/
import Derived.Test.YtlbpefahhecbnaaCeB
namespace Go.Proofs.Ytlbpefahhecbnaa
open Go.RowKit Go Go.Shelf
set_option linter.unusedVariables false

theorem mask62 (y r : Nat) (hy : y < 18446744073709551616) (hr : r ≤ 62) :
    bits BinOp.and IntKind.u64 (y : Int) (IntKind.u64.wrap (IntKind.u64.wrap (2 ^ r) - 1)) = ((y % 2 ^ r : Nat) : Int) := by
  have h1 : 2 ^ r ≤ 2 ^ 62 := Nat.pow_le_pow_right (by omega) hr
  have h2 : (2:Nat) ^ 62 = 4611686018427387904 := by decide
  have h3 : 0 < 2 ^ r := Nat.pow_pos (by omega)
  have e0 : ((2 : Int) ^ r) = ((2 ^ r : Nat) : Int) := by simp
  have e1 : IntKind.u64.wrap (2 ^ r) = ((2 ^ r : Nat) : Int) := by rw [e0, IntKind.wrap_u64]; omega
  have e2 : IntKind.u64.wrap (IntKind.u64.wrap (2 ^ r) - 1) = ((2 ^ r - 1 : Nat) : Int) := by rw [e1, IntKind.wrap_u64]; omega
  rw [e2, u64_and_nat y (2 ^ r - 1) hy (by omega), Nat.and_two_pow_sub_one_eq_mod]
theorem mod62 (y : Nat) {r : Nat} (hr : r ≤ 62) : y % 2 ^ r < 4611686018427387904 := by
  have h1 : 2 ^ r ≤ 2 ^ 62 := Nat.pow_le_pow_right (by omega) hr
  have h3 : 0 < 2 ^ r := Nat.pow_pos (by omega)
  have h2 : (2:Nat) ^ 62 = 4611686018427387904 := by decide
  have := Nat.mod_lt y h3
  omega

/-- Bits, clamped to 0..62. -/
def clampN (b : Int) : Nat := (min (max b 0) 62).toNat

set_option maxRecDepth 100000 in
theorem next_any (s b base : Int) (v : Nat) (w : World) (hv : v < 2 ^ 64) :
    Calls Try.prog 19 #[.agg #[.int .i64 s, .int .i64 b, .int .i64 base], .int .u64 (v : Int)] w fun e w' => e = .returned (.int .i64 (wrap64 (base + ((v % 2 ^ clampN b : Nat) : Int)))) ∧ Below w.heap.size w w' := by
  obtain ⟨m, hm⟩ : ∃ m, m = max b 0 := ⟨_, rfl⟩
  have hk : min m 62 = ((clampN b : Nat) : Int) := by unfold clampN; omega
  have hk62 : clampN b ≤ 62 := by unfold clampN; omega
  have hk62' : ((clampN b : Nat) : Int) < 64 := by omega
  obtain ⟨k, hkk⟩ : ∃ k, k = clampN b := ⟨_, rfl⟩
  rw [← hkk] at hk hk62 hk62' ⊢
  have HB := hide ((Below.refl w.heap.size w).alloc (Nat.le_refl _) (.cells #[.int .i64 s, .int .i64 b, .int .i64 base] 36))
  have hm' := hm.symm
  clear hkk hm
  go_enter Try.func19, Try.ntmps19
  go_wp2
  go_region
  go_wp2
  go_ret
  refine ⟨ret_int ?_, HB.out.drew⟩
  rw [mask62 v k (by omega) hk62]
  have hq := mod62 v hk62
  obtain ⟨q, hqq⟩ : ∃ q, q = v % 2 ^ k := ⟨_, rfl⟩
  rw [← hqq] at hq ⊢
  rw [show wrap64 (q : Int) = (q : Int) from by unfold wrap64; omega]

theorem mod_step (v j : Nat) : v % 2 ^ (j + 1) = v % 2 ^ j + (v / 2 ^ j % 2) * 2 ^ j := by
  rw [Nat.pow_succ, Nat.mod_mul, Nat.mul_comm (2 ^ j)]

set_option maxRecDepth 100000 in
set_option maxHeartbeats 4000000 in
theorem rnext_any (s b base : Int) (v : Nat) (w : World) (hv : v < 2 ^ 64) :
    Calls Try.prog 20 #[.agg #[.int .i64 s, .int .i64 b, .int .i64 base], .int .u64 (v : Int)] w fun e w' => e = .returned (.int .i64 (wrap64 (base + ((v % 2 ^ clampN b : Nat) : Int)))) ∧ Below w.heap.size w w' := by
  have hk62 : clampN b ≤ 62 := by unfold clampN; omega
  have hlt : ∀ j : Nat, j < clampN b → (j : Int) < b ∧ (j : Int) < 62 := by unfold clampN; omega
  have hge : ¬ ((clampN b : Nat) : Int) < b ∨ ((clampN b : Nat) : Int) < b ∧ ¬ ((clampN b : Nat) : Int) < 62 := by unfold clampN; omega
  obtain ⟨k, hkk⟩ : ∃ k, k = clampN b := ⟨_, rfl⟩
  rw [← hkk] at hk62 hlt hge ⊢
  obtain ⟨W0, hW0⟩ : ∃ W0, W0 = w.alloc (.cells #[.int .i64 s, .int .i64 b, .int .i64 base] 36) := ⟨_, rfl⟩
  have g0 : W0.heap[w.heap.size]? = some (.cells #[.int .i64 s, .int .i64 b, .int .i64 base] 36 (0, 0)) := by rw [hW0]; exact heap_alloc_new w _
  have b0 : Below w.heap.size w W0 := by rw [hW0]; exact (Below.refl w.heap.size w).alloc (Nat.le_refl _) _
  have k1 := cell_blk g0 1
  have k2 := cell_blk g0 2
  have HK1 := hide k1
  have HK2 := hide k2
  have HB := hide b0
  have HW0 := hide hW0
  have HLT := hide hlt
  have HGE := hide hge
  clear hkk k1 k2 b0 g0 hW0 hlt hge
  go_enter Try.func20, Try.ntmps20
  go_wp2
  rw [← HW0.out]
  go_loopw [1, 5, 6, 7] (fun x n one i wr => ∃ j : Nat, j ≤ k ∧ i = .int .i64 j ∧ x = .int .u64 ((v / 2 ^ j : Nat) : Int) ∧ n = .int .u64 ((v % 2 ^ j : Nat) : Int) ∧ one = .int .u64 ((2 ^ j : Nat) : Int) ∧ wr = W0) (fun _ _ _ i _ => k - (intOf i).toNat)
  case atStart => exact ⟨0, Nat.zero_le _, rfl, by simp, by simp [Nat.mod_one], rfl, rfl⟩
  case round =>
    obtain ⟨j, hj, rfl, rfl, rfl, rfl, rfl⟩ := hrel
    have k1 := HK1.out
    have k2 := HK2.out
    by_cases hlt : j < k
    · obtain ⟨h1, h2⟩ := HLT.out j hlt
      obtain ⟨y, hy⟩ : ∃ y, y = v / 2 ^ j := ⟨_, rfl⟩
      obtain ⟨n, hn⟩ : ∃ n, n = v % 2 ^ j := ⟨_, rfl⟩
      obtain ⟨p, hp⟩ : ∃ p, p = 2 ^ j := ⟨_, rfl⟩
      have hyv : y < 18446744073709551616 := by have : v / 2 ^ j ≤ v := Nat.div_le_self _ _; omega
      have hn62 := mod62 v (show j ≤ 62 by omega)
      have hp61 : p ≤ 2305843009213693952 := by
        rw [hp]
        have h1 : 2 ^ j ≤ 2 ^ 61 := Nat.pow_le_pow_right (by omega) (by omega)
        have h2 : (2:Nat) ^ 61 = 2305843009213693952 := by decide
        omega
      have hnext := mod_step v j
      rw [← hy, ← hn, ← hp] at hnext ⊢
      rw [← hn] at hn62
      have HY := hide hy
      have HN := hide hn
      have HP := hide hp
      have HNX := hide hnext
      clear hy hn hp hnext
      by_cases ho : y % 2 = 1
      · have hoi : ((y : Int) % 2 == 1) = true := by simp; omega
        go_wp2
        go_roundw
        case rel =>
          refine ⟨j + 1, by omega, by go_num, ?_, ?_, ?_, trivial⟩
          · rw [Nat.pow_succ, ← Nat.div_div_eq_div_mul, ← HY.out]; go_num
          · rw [HNX.out, ho, Nat.one_mul]; go_num
          · rw [Nat.pow_succ, ← HP.out]; go_num
        case measure => simp [intOf]; omega
      · have hoi : ((y : Int) % 2 == 1) = false := by simp; omega
        have ho0 : y % 2 = 0 := by omega
        go_wp2
        go_roundw
        case rel =>
          refine ⟨j + 1, by omega, by go_num, ?_, ?_, ?_, trivial⟩
          · rw [Nat.pow_succ, ← Nat.div_div_eq_div_mul, ← HY.out]; go_num
          · rw [HNX.out, ho0, Nat.zero_mul, Nat.add_zero]
          · rw [Nat.pow_succ, ← HP.out]; go_num
        case measure => simp [intOf]; omega
    · obtain rfl : j = k := by omega
      have hm := mod62 v hk62
      have hx : wrap64 ((v : Int) % 2 ^ j) = (v : Int) % 2 ^ j := by
        rw [show (v : Int) % 2 ^ j = ((v % 2 ^ j : Nat) : Int) by simp]
        unfold wrap64; omega
      have HX := hide hx
      clear hm hx
      rcases HGE.out with h1 | ⟨h1, h2⟩
      · go_wp2
        go_ret
        exact ⟨ret_int (by have h := HX.out; simp [h]), HB.out⟩
      · go_wp2
        go_ret
        exact ⟨ret_int (by have h := HX.out; simp [h]), HB.out⟩

set_option maxHeartbeats 2000000 in
theorem walk_CellsNext {w : World} (s b base : Int) (h0 : (Lit.int .i64 s).wf = true) (h1 : (Lit.int .i64 b).wf = true) (h3 : (Lit.int .i64 base).wf = true) (v : Int) (h2 : (Lit.int .u64 v).wf = true) :
    Calls Try.prog 6 #[.agg #[.int .i64 s, .int .i64 b, .int .i64 base], .int .u64 v] w fun e w' => e = .returned (.bool true) ∧ Below w.heap.size w w' := by
  obtain ⟨hv0, hv1⟩ := bounds_u64 h2
  obtain ⟨v, rfl⟩ := Int.eq_ofNat_of_zero_le hv0
  obtain ⟨W0, hW0⟩ : ∃ W0, W0 = w.alloc (.cells #[.int .i64 s, .int .i64 b, .int .i64 base] 36) := ⟨_, rfl⟩
  have g0 : W0.heap[w.heap.size]? = some (.cells #[.int .i64 s, .int .i64 b, .int .i64 base] 36 (0, 0)) := by rw [hW0]; exact heap_alloc_new w _
  have b0 : Below w.heap.size w W0 := by rw [hW0]; exact (Below.refl w.heap.size w).alloc (Nat.le_refl _) _
  have k0 := cell_blk g0 0
  have k1 := cell_blk g0 1
  have k2 := cell_blk g0 2
  have HB := hide b0
  have HKN := hide known_any
  have HW0 := hide hW0
  have hv2 : v < 2 ^ 64 := by have : (2 : Nat) ^ 64 = 18446744073709551616 := by decide
                              omega
  have HV := hide hv2
  clear h0 h1 h2 h3 hv0 hv1 b0 hW0 hv2
  by_cases hlow : base < -1099511627776
  · clear g0
    go_enter Try.func6, Try.ntmps6
    go_wp2_with fail
    try rw [← HW0.out]
    go_wp2_with fail
    refine (HKN.out _).mono ?_
    rintro e W ⟨rfl, b⟩
    have HB1 := hide (HB.out.trans (b.mono HB.out.size))
    clear b
    go_wp2
    go_ret
    exact ⟨rfl, HB1.out⟩
  · by_cases hhigh : base > 1099511627776
    · clear g0
      go_enter Try.func6, Try.ntmps6
      go_wp2_with fail
      try rw [← HW0.out]
      go_wp2_with fail
      refine (HKN.out _).mono ?_
      rintro e W ⟨rfl, b⟩
      have HB1 := hide (HB.out.trans (b.mono HB.out.size))
      clear b
      go_wp2
      go_ret
      exact ⟨rfl, HB1.out⟩
    · have hA := fun W => next_any s b base v W HV.out
      have hB := fun W => rnext_any s b base v W HV.out
      obtain ⟨r, hr⟩ : ∃ r, r = wrap64 (base + ((v % 2 ^ clampN b : Nat) : Int)) := ⟨_, rfl⟩
      rw [← hr] at hA hB
      have HA := hide hA
      have HBB := hide hB
      have hlt := lt_of_heap g0
      have hrr : (r == r) = true := by simp
      clear g0 hr hA hB
      go_enter Try.func6, Try.ntmps6
      go_wp2_with fail
      try rw [← HW0.out]
      go_wp2_with fail
      go_region_held3 (fun w' => w'.cell? ⟨w.heap.size, 0, none⟩ = #[Value.int .i64 s, .int .i64 b, .int .i64 base][0]? ∧ w'.cell? ⟨w.heap.size, 1, none⟩ = #[Value.int .i64 s, .int .i64 b, .int .i64 base][1]? ∧ w'.cell? ⟨w.heap.size, 2, none⟩ = #[Value.int .i64 s, .int .i64 b, .int .i64 base][2]?) (go_keep)
        (first
        | (go_at_call 19; refine (HA.out _).mono ?_; rintro e w1 ⟨rfl, hb1⟩; replace hb1 := (Below.refl _ W0).drew.trans hb1; have j0 := (hb1.cell (p := ⟨w.heap.size, 0, none⟩) hlt).trans k0; have j1 := (hb1.cell (p := ⟨w.heap.size, 1, none⟩) hlt).trans k1; have j2 := (hb1.cell (p := ⟨w.heap.size, 2, none⟩) hlt).trans k2; have HB1 := hide hb1; clear hb1)
        | (go_at_call 20; refine (HBB.out _).mono ?_; rintro e w2 ⟨rfl, hb2⟩; replace hb2 := HB1.out.trans (hb2.mono HB1.out.size); have l0 := (hb2.cell (p := ⟨w.heap.size, 0, none⟩) hlt).trans k0; have l1 := (hb2.cell (p := ⟨w.heap.size, 1, none⟩) hlt).trans k1; have l2 := (hb2.cell (p := ⟨w.heap.size, 2, none⟩) hlt).trans k2; have HB2 := hide hb2; clear hb2)
        | (go_at_call 11; refine (HKN.out _).mono ?_; rintro e w3 ⟨rfl, hb3⟩; replace hb3 := HB2.out.trans (hb3.mono HB2.out.size); have m0 := (hb3.cell (p := ⟨w.heap.size, 0, none⟩) hlt).trans k0; have m1 := (hb3.cell (p := ⟨w.heap.size, 1, none⟩) hlt).trans k1; have m2 := (hb3.cell (p := ⟨w.heap.size, 2, none⟩) hlt).trans k2; have HB3 := hide hb3; clear hb3))
      go_wp2
      go_ret
      exact ⟨rfl, HB.out.trans (HB3.out.mono HB.out.size)⟩
end Go.Proofs.Ytlbpefahhecbnaa
