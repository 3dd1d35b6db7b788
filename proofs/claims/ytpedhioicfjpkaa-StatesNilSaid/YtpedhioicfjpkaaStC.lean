/- cells.Next and portmanteauref09.Next walked. -/
import Derived.Test.YtpedhioicfjpkaaStA
namespace Go.Proofs.Ytpedhioicfjpkaa
open Go.RowKit Go Go.Shelf
set_option linter.unusedVariables false

theorem mask62 (y r : Nat) (hy : y < 18446744073709551616) (hr : r ≤ 62) :
    bits BinOp.and IntKind.u64 (y : Int) (IntKind.u64.wrap (IntKind.u64.wrap (2 ^ r) - 1)) = ((y % 2 ^ r : Nat) : Int) := by
  have h1 : 2 ^ r ≤ 2 ^ 62 := Nat.pow_le_pow_right (by omega) hr
  have h2 : (2:Nat) ^ 62 = 4611686018427387904 := by decide
  have h3 : 0 < 2 ^ r := Nat.pow_pos (by omega)
  have e0 : ((2 : Int) ^ r) = ((2 ^ r : Nat) : Int) := by simp
  have e1 : IntKind.u64.wrap (2 ^ r) = ((2 ^ r : Nat) : Int) := by rw [e0, IntKind.wrap_u64]; omega
  have e2 : IntKind.u64.wrap (IntKind.u64.wrap (2 ^ r) - 1) = ((2 ^ r - 1 : Nat) : Int) := by rw [e1, IntKind.wrap_u64]; omega
  rw [e2, u64_and_nat y (2 ^ r - 1) hy (by omega), Nat.and_two_pow_sub_one_eq_mod]
theorem mod62 (y : Nat) {r : Nat} (hr : r ≤ 62) : y % 2 ^ r < 4611686018427387904 := by
  have h1 : 2 ^ r ≤ 2 ^ 62 := Nat.pow_le_pow_right (by omega) hr
  have h3 : 0 < 2 ^ r := Nat.pow_pos (by omega)
  have h2 : (2:Nat) ^ 62 = 4611686018427387904 := by decide
  have := Nat.mod_lt y h3
  omega

/-- Bits, clamped to 0..62. -/
def clampN (b : Int) : Nat := (min (max b 0) 62).toNat

set_option maxRecDepth 100000 in
theorem next_any (s b base : Int) (v : Nat) (w : World) (hv : v < 2 ^ 64) :
    Calls Try.prog 37 #[.agg #[.int .i64 s, .int .i64 b, .int .i64 base], .int .u64 (v : Int)] w fun e w' => e = .returned (.int .i64 (wrap64 (base + ((v % 2 ^ clampN b : Nat) : Int)))) ∧ Below w.heap.size w w' := by
  obtain ⟨m, hm⟩ : ∃ m, m = max b 0 := ⟨_, rfl⟩
  have hk : min m 62 = ((clampN b : Nat) : Int) := by unfold clampN; omega
  have hk62 : clampN b ≤ 62 := by unfold clampN; omega
  have hk62' : ((clampN b : Nat) : Int) < 64 := by omega
  obtain ⟨k, hkk⟩ : ∃ k, k = clampN b := ⟨_, rfl⟩
  rw [← hkk] at hk hk62 hk62' ⊢
  have HB := hide ((Below.refl w.heap.size w).alloc (Nat.le_refl _) (.cells #[.int .i64 s, .int .i64 b, .int .i64 base] 53))
  have hm' := hm.symm
  clear hkk hm
  go_enter Try.func37, Try.ntmps37
  go_wp2
  go_region
  go_wp2
  go_ret
  refine ⟨ret_int ?_, HB.out.drew⟩
  rw [mask62 v k (by omega) hk62]
  have hq := mod62 v hk62
  obtain ⟨q, hqq⟩ : ∃ q, q = v % 2 ^ k := ⟨_, rfl⟩
  rw [← hqq] at hq ⊢
  rw [show wrap64 (q : Int) = (q : Int) from by unfold wrap64; omega]

theorem mod_step (v j : Nat) : v % 2 ^ (j + 1) = v % 2 ^ j + (v / 2 ^ j % 2) * 2 ^ j := by
  rw [Nat.pow_succ, Nat.mod_mul, Nat.mul_comm (2 ^ j)]

set_option maxRecDepth 100000 in
set_option maxHeartbeats 4000000 in
theorem rnext_any (s b base : Int) (v : Nat) (w : World) (hv : v < 2 ^ 64) :
    Calls Try.prog 26 #[.agg #[.int .i64 s, .int .i64 b, .int .i64 base], .int .u64 (v : Int)] w fun e w' => e = .returned (.int .i64 (wrap64 (base + ((v % 2 ^ clampN b : Nat) : Int)))) ∧ Below w.heap.size w w' := by
  have hk62 : clampN b ≤ 62 := by unfold clampN; omega
  have hlt : ∀ j : Nat, j < clampN b → (j : Int) < b ∧ (j : Int) < 62 := by unfold clampN; omega
  have hge : ¬ ((clampN b : Nat) : Int) < b ∨ ((clampN b : Nat) : Int) < b ∧ ¬ ((clampN b : Nat) : Int) < 62 := by unfold clampN; omega
  obtain ⟨k, hkk⟩ : ∃ k, k = clampN b := ⟨_, rfl⟩
  rw [← hkk] at hk62 hlt hge ⊢
  obtain ⟨W0, hW0⟩ : ∃ W0, W0 = w.alloc (.cells #[.int .i64 s, .int .i64 b, .int .i64 base] 53) := ⟨_, rfl⟩
  have g0 : W0.heap[w.heap.size]? = some (.cells #[.int .i64 s, .int .i64 b, .int .i64 base] 53 (0, 0)) := by rw [hW0]; exact heap_alloc_new w _
  have b0 : Below w.heap.size w W0 := by rw [hW0]; exact (Below.refl w.heap.size w).alloc (Nat.le_refl _) _
  have k1 := cell_blk g0 1
  have k2 := cell_blk g0 2
  have HK1 := hide k1
  have HK2 := hide k2
  have HB := hide b0
  have HW0 := hide hW0
  have HLT := hide hlt
  have HGE := hide hge
  clear hkk k1 k2 b0 g0 hW0 hlt hge
  go_enter Try.func26, Try.ntmps26
  go_wp2
  rw [← HW0.out]
  go_loopw [1, 5, 6, 7] (fun x n one i wr => ∃ j : Nat, j ≤ k ∧ i = .int .i64 j ∧ x = .int .u64 ((v / 2 ^ j : Nat) : Int) ∧ n = .int .u64 ((v % 2 ^ j : Nat) : Int) ∧ one = .int .u64 ((2 ^ j : Nat) : Int) ∧ wr = W0) (fun _ _ _ i _ => k - (intOf i).toNat)
  case atStart => exact ⟨0, Nat.zero_le _, rfl, by simp, by simp [Nat.mod_one], rfl, rfl⟩
  case round =>
    obtain ⟨j, hj, rfl, rfl, rfl, rfl, rfl⟩ := hrel
    have k1 := HK1.out
    have k2 := HK2.out
    by_cases hlt : j < k
    · obtain ⟨h1, h2⟩ := HLT.out j hlt
      obtain ⟨y, hy⟩ : ∃ y, y = v / 2 ^ j := ⟨_, rfl⟩
      obtain ⟨n, hn⟩ : ∃ n, n = v % 2 ^ j := ⟨_, rfl⟩
      obtain ⟨p, hp⟩ : ∃ p, p = 2 ^ j := ⟨_, rfl⟩
      have hyv : y < 18446744073709551616 := by have : v / 2 ^ j ≤ v := Nat.div_le_self _ _; omega
      have hn62 := mod62 v (show j ≤ 62 by omega)
      have hp61 : p ≤ 2305843009213693952 := by
        rw [hp]
        have h1 : 2 ^ j ≤ 2 ^ 61 := Nat.pow_le_pow_right (by omega) (by omega)
        have h2 : (2:Nat) ^ 61 = 2305843009213693952 := by decide
        omega
      have hnext := mod_step v j
      rw [← hy, ← hn, ← hp] at hnext ⊢
      rw [← hn] at hn62
      have HY := hide hy
      have HN := hide hn
      have HP := hide hp
      have HNX := hide hnext
      clear hy hn hp hnext
      by_cases ho : y % 2 = 1
      · have hoi : ((y : Int) % 2 == 1) = true := by simp; omega
        go_wp2
        go_roundw
        case rel =>
          refine ⟨j + 1, by omega, by go_num, ?_, ?_, ?_, trivial⟩
          · rw [Nat.pow_succ, ← Nat.div_div_eq_div_mul, ← HY.out]; go_num
          · rw [HNX.out, ho, Nat.one_mul]; go_num
          · rw [Nat.pow_succ, ← HP.out]; go_num
        case measure => simp [intOf]; omega
      · have hoi : ((y : Int) % 2 == 1) = false := by simp; omega
        have ho0 : y % 2 = 0 := by omega
        go_wp2
        go_roundw
        case rel =>
          refine ⟨j + 1, by omega, by go_num, ?_, ?_, ?_, trivial⟩
          · rw [Nat.pow_succ, ← Nat.div_div_eq_div_mul, ← HY.out]; go_num
          · rw [HNX.out, ho0, Nat.zero_mul, Nat.add_zero]
          · rw [Nat.pow_succ, ← HP.out]; go_num
        case measure => simp [intOf]; omega
    · obtain rfl : j = k := by omega
      have hm := mod62 v hk62
      have hx : wrap64 ((v : Int) % 2 ^ j) = (v : Int) % 2 ^ j := by
        rw [show (v : Int) % 2 ^ j = ((v % 2 ^ j : Nat) : Int) by simp]
        unfold wrap64; omega
      have HX := hide hx
      clear hm hx
      rcases HGE.out with h1 | ⟨h1, h2⟩
      · go_wp2
        go_ret
        exact ⟨ret_int (by have h := HX.out; simp [h]), HB.out⟩
      · go_wp2
        go_ret
        exact ⟨ret_int (by have h := HX.out; simp [h]), HB.out⟩
end Go.Proofs.Ytpedhioicfjpkaa
