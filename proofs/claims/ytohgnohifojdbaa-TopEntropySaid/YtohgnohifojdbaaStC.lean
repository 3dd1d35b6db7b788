/- cells.Next and portmanteauref09.Next walked. -/
import Derived.Test.YtohgnohifojdbaaStA
namespace Go.Proofs.Ytohgnohifojdbaa
set_option maxRecDepth 8000
open Go.RowKit Go Go.Shelf
set_option linter.unusedVariables false

theorem mask62 (y r : Nat) (hy : y < 18446744073709551616) (hr : r ≤ 62) :
    bits BinOp.and IntKind.u64 (y : Int) (IntKind.u64.wrap (IntKind.u64.wrap (2 ^ r) - 1)) = ((y % 2 ^ r : Nat) : Int) := by
  have h1 : 2 ^ r ≤ 2 ^ 62 := Nat.pow_le_pow_right (by omega) hr
  have h2 : (2:Nat) ^ 62 = 4611686018427387904 := by decide
  have h3 : 0 < 2 ^ r := Nat.pow_pos (by omega)
  have e0 : ((2 : Int) ^ r) = ((2 ^ r : Nat) : Int) := by simp
  have e1 : IntKind.u64.wrap (2 ^ r) = ((2 ^ r : Nat) : Int) := by rw [e0, IntKind.wrap_u64]; omega
  have e2 : IntKind.u64.wrap (IntKind.u64.wrap (2 ^ r) - 1) = ((2 ^ r - 1 : Nat) : Int) := by rw [e1, IntKind.wrap_u64]; omega
  rw [e2, u64_and_nat y (2 ^ r - 1) hy (by omega), Nat.and_two_pow_sub_one_eq_mod]
theorem mod62 (y : Nat) {r : Nat} (hr : r ≤ 62) : y % 2 ^ r < 4611686018427387904 := by
  have h1 : 2 ^ r ≤ 2 ^ 62 := Nat.pow_le_pow_right (by omega) hr
  have h3 : 0 < 2 ^ r := Nat.pow_pos (by omega)
  have h2 : (2:Nat) ^ 62 = 4611686018427387904 := by decide
  have := Nat.mod_lt y h3
  omega

/-- Bits, clamped to 0..62. -/
def clampC (b : Int) : Nat := (min (max b 0) 62).toNat

set_option maxRecDepth 100000 in
theorem next_any (s b base : Int) (v : Nat) (w : World) (hv : v < 2 ^ 64) :
    Calls Try.prog 41 #[.agg #[.int .i64 s, .int .i64 b, .int .i64 base], .int .u64 (v : Int)] w fun e w' => e = .returned (.int .i64 (wrap64 (base + ((v % 2 ^ clampC b : Nat) : Int)))) ∧ Below w.heap.size w w' := by
  obtain ⟨m, hm⟩ : ∃ m, m = max b 0 := ⟨_, rfl⟩
  have hk : min m 62 = ((clampC b : Nat) : Int) := by unfold clampC; omega
  have hk62 : clampC b ≤ 62 := by unfold clampC; omega
  have hk62' : ((clampC b : Nat) : Int) < 64 := by omega
  obtain ⟨k, hkk⟩ : ∃ k, k = clampC b := ⟨_, rfl⟩
  rw [← hkk] at hk hk62 hk62' ⊢
  have HB := hide ((Below.refl w.heap.size w).alloc (Nat.le_refl _) (.cells #[.int .i64 s, .int .i64 b, .int .i64 base] 98))
  have hm' := hm.symm
  clear hkk hm
  go_enter Try.func41, Try.ntmps41
  go_wp2
  go_region
  go_wp2
  go_ret
  refine ⟨ret_int ?_, HB.out.drew⟩
  rw [mask62 v k (by omega) hk62]
  have hq := mod62 v hk62
  obtain ⟨q, hqq⟩ : ∃ q, q = v % 2 ^ k := ⟨_, rfl⟩
  rw [← hqq] at hq ⊢
  rw [show wrap64 (q : Int) = (q : Int) from by unfold wrap64; omega]

theorem mod_step (v j : Nat) : v % 2 ^ (j + 1) = v % 2 ^ j + (v / 2 ^ j % 2) * 2 ^ j := by
  rw [Nat.pow_succ, Nat.mod_mul, Nat.mul_comm (2 ^ j)]

end Go.Proofs.Ytohgnohifojdbaa
