/- portmanteaulaw03.BitinParts walked. -/
import Derived.Test.YtifolinoadllbaaL3B
namespace Go.Proofs.Ytifolinoadllbaa
open Go.RowKit Go
set_option linter.unusedVariables false

theorem or_parts (x y a b : Nat) (hx : x < 2 ^ a) (hy : y < 2 ^ b) (h : a + b ≤ 64) :
    bits BinOp.or IntKind.u64 (x : Int) (IntKind.u64.wrap ((y : Int) * 2 ^ a)) = ((x + y * 2 ^ a : Nat) : Int) ∧ bits BinOp.or IntKind.u64 (IntKind.u64.wrap ((y : Int) * 2 ^ a)) (x : Int) = ((x + y * 2 ^ a : Nat) : Int) := by
  obtain ⟨e1, e2⟩ := shl_num y a b hy h
  have hx64 : x < 18446744073709551616 := lt64 hx (by omega)
  rw [e1]
  have h1 := or_num x y a hx e2 hx64
  refine ⟨h1, ?_⟩
  rw [u64_or_nat _ _ e2 hx64]
  rw [u64_or_nat _ _ hx64 e2, Nat.or_comm] at h1
  exact h1

theorem mod_parts (M a b : Nat) : M % 2 ^ (a + b) = M % 2 ^ a + M / 2 ^ a % 2 ^ b * 2 ^ a := by
  rw [Nat.pow_add, Nat.mod_mul, Nat.mul_comm (2 ^ a)]

/-- What the three takings of a Forward bring. -/
theorem parts_f (N t : Nat) (a b S : Int) (ha : 0 ≤ a) (hb : 0 ≤ b) (hs : (a + b ≤ 64 ∧ S = a + b) ∨ (64 < a + b ∧ 128 < a + b ∧ S < 0)) :
    ((oF N 0 t S).2.1 = 0 ∧ (oF N 0 t a).2.1 = 0 ∧ (oF N (oF N 0 t a).2.2 t b).2.1 = 0 ∧ a ≤ 64 ∧
      bits BinOp.or IntKind.u64 (((oF N 0 t a).1 : Nat) : Int) (IntKind.u64.wrap ((((oF N (oF N 0 t a).2.2 t b).1 : Nat) : Int) * 2 ^ a.toNat)) = (((oF N 0 t S).1 : Nat) : Int)) ∨
    ((oF N 0 t S).2.1 ≠ 0 ∧ (oF N 0 t a).2.1 ≠ 0) ∨ ((oF N 0 t S).2.1 ≠ 0 ∧ (oF N 0 t a).2.1 = 0 ∧ (oF N (oF N 0 t a).2.2 t b).2.1 ≠ 0) := by
  obtain ⟨m, rfl⟩ := Int.eq_ofNat_of_zero_le ha
  obtain ⟨n, rfl⟩ := Int.eq_ofNat_of_zero_le hb
  rcases hs with ⟨h1, rfl⟩ | ⟨h1, h2, h3⟩
  · by_cases hk : m + n ≤ t
    · left
      have o1 : oF N 0 t (m : Int) = (N / 2 ^ 0 % 2 ^ m, 0, 0 + m) := by unfold oF okN; rw [if_pos (by simp; omega)]; simp
      have o2 : oF N (0 + m) t (n : Int) = (N / 2 ^ (0 + m) % 2 ^ n, 0, 0 + m + n) := by unfold oF okN; rw [if_pos (by simp; omega)]; simp
      have o3 : oF N 0 t ((m : Int) + (n : Int)) = (N / 2 ^ 0 % 2 ^ (m + n), 0, 0 + (m + n)) := by
        have e : ((m : Int) + (n : Int)) = ((m + n : Nat) : Int) := by omega
        rw [e]
        unfold oF okN; rw [if_pos (by simp; omega), Int.toNat_natCast]
      rw [o1, o2, o3]
      refine ⟨rfl, rfl, rfl, by omega, ?_⟩
      have := (or_parts (N % 2 ^ m) (N / 2 ^ m % 2 ^ n) m n (Nat.mod_lt _ (Nat.pow_pos (by omega))) (Nat.mod_lt _ (Nat.pow_pos (by omega))) (by omega)).1
      simp only [Nat.pow_zero, Nat.div_one, Nat.zero_add, Int.toNat_natCast]
      rw [this, mod_parts]
    · right
      have o3 : (oF N 0 t ((m : Int) + (n : Int))).2.1 = 3 := by
        unfold oF okN
        rw [if_neg (by simp; omega), if_neg (by omega)]
      rw [o3]
      by_cases hm : m ≤ t
      · right
        have o1 : oF N 0 t (m : Int) = (N / 2 ^ 0 % 2 ^ m, 0, 0 + m) := by unfold oF okN; rw [if_pos (by simp; omega)]; simp
        have o2 : (oF N (0 + m) t (n : Int)).2.1 = 3 := by unfold oF okN; rw [if_neg (by simp; omega), if_neg (by omega)]
        rw [o1, o2]
        exact ⟨by decide, rfl, by decide⟩
      · left
        have o1 : (oF N 0 t (m : Int)).2.1 = 3 := by unfold oF okN; rw [if_neg (by simp; omega), if_neg (by omega)]
        rw [o1]
        exact ⟨by decide, by decide⟩
  · right
    have o3 : (oF N 0 t S).2.1 = 2 := by
      unfold oF okN
      rw [if_neg (by simp; omega), if_pos (by omega)]
    rw [o3]
    by_cases hm : okN 0 t (m : Int) = true
    · right
      have hm' := hm
      simp [okN] at hm'
      have o1 : oF N 0 t (m : Int) = (N / 2 ^ 0 % 2 ^ m, 0, 0 + m) := by unfold oF; rw [if_pos hm]; simp
      have o2 : (oF N (0 + m) t (n : Int)).2.1 = 2 := by unfold oF okN; rw [if_neg (by simp; omega), if_pos (by omega)]
      rw [o1, o2]
      exact ⟨by decide, rfl, by decide⟩
    · left
      have o1 : (oF N 0 t (m : Int)).2.1 ≠ 0 := by
        unfold oF
        rw [if_neg hm]
        show (if _ then (2 : Int) else 3) ≠ 0
        split <;> decide
      exact ⟨by decide, o1⟩

/-- What the three takings of a Backward bring. -/
theorem parts_b (N t : Nat) (a b S : Int) (ha : 0 ≤ a) (hb : 0 ≤ b) (hs : (a + b ≤ 64 ∧ S = a + b) ∨ (64 < a + b ∧ 128 < a + b ∧ S < 0)) :
    ((oB N 0 t S).2.1 = 0 ∧ (oB N 0 t a).2.1 = 0 ∧ (oB N 0 (oB N 0 t a).2.2 b).2.1 = 0 ∧ b ≤ 64 ∧
      bits BinOp.or IntKind.u64 (IntKind.u64.wrap ((((oB N 0 t a).1 : Nat) : Int) * 2 ^ b.toNat)) (((oB N 0 (oB N 0 t a).2.2 b).1 : Nat) : Int) = (((oB N 0 t S).1 : Nat) : Int)) ∨
    ((oB N 0 t S).2.1 ≠ 0 ∧ (oB N 0 t a).2.1 ≠ 0) ∨ ((oB N 0 t S).2.1 ≠ 0 ∧ (oB N 0 t a).2.1 = 0 ∧ (oB N 0 (oB N 0 t a).2.2 b).2.1 ≠ 0) := by
  obtain ⟨m, rfl⟩ := Int.eq_ofNat_of_zero_le ha
  obtain ⟨n, rfl⟩ := Int.eq_ofNat_of_zero_le hb
  rcases hs with ⟨h1, rfl⟩ | ⟨h1, h2, h3⟩
  · by_cases hk : m + n ≤ t
    · left
      have o1 : oB N 0 t (m : Int) = (N / 2 ^ (t - m) % 2 ^ m, 0, t - m) := by unfold oB okN; rw [if_pos (by simp; omega)]; simp
      have o2 : oB N 0 (t - m) (n : Int) = (N / 2 ^ (t - m - n) % 2 ^ n, 0, t - m - n) := by unfold oB okN; rw [if_pos (by simp; omega)]; simp
      have o3 : oB N 0 t ((m : Int) + (n : Int)) = (N / 2 ^ (t - (m + n)) % 2 ^ (m + n), 0, t - (m + n)) := by
        have e : ((m : Int) + (n : Int)) = ((m + n : Nat) : Int) := by omega
        rw [e]
        unfold oB okN; rw [if_pos (by simp; omega), Int.toNat_natCast]
      rw [o1, o2, o3]
      refine ⟨rfl, rfl, rfl, by omega, ?_⟩
      have := (or_parts (N / 2 ^ (t - m - n) % 2 ^ n) (N / 2 ^ (t - m) % 2 ^ m) n m (Nat.mod_lt _ (Nat.pow_pos (by omega))) (Nat.mod_lt _ (Nat.pow_pos (by omega))) (by omega)).2
      simp only [Int.toNat_natCast]
      rw [this, Nat.add_comm m n, mod_parts, Nat.div_div_eq_div_mul, ← Nat.pow_add, show t - (n + m) = t - m - n by omega, show t - m - n + n = t - m by omega]
    · right
      have o3 : (oB N 0 t ((m : Int) + (n : Int))).2.1 = 14 := by
        unfold oB okN
        rw [if_neg (by simp; omega), if_neg (by omega)]
      rw [o3]
      by_cases hm : m ≤ t
      · right
        have o1 : oB N 0 t (m : Int) = (N / 2 ^ (t - m) % 2 ^ m, 0, t - m) := by unfold oB okN; rw [if_pos (by simp; omega)]; simp
        have o2 : (oB N 0 (t - m) (n : Int)).2.1 = 14 := by unfold oB okN; rw [if_neg (by simp; omega), if_neg (by omega)]
        rw [o1, o2]
        exact ⟨by decide, rfl, by decide⟩
      · left
        have o1 : (oB N 0 t (m : Int)).2.1 = 14 := by unfold oB okN; rw [if_neg (by simp; omega), if_neg (by omega)]
        rw [o1]
        exact ⟨by decide, by decide⟩
  · right
    have o3 : (oB N 0 t S).2.1 = 2 := by
      unfold oB okN
      rw [if_neg (by simp; omega), if_pos (by omega)]
    rw [o3]
    by_cases hm : okN 0 t (m : Int) = true
    · right
      have hm' := hm
      simp [okN] at hm'
      have o1 : oB N 0 t (m : Int) = (N / 2 ^ (t - m) % 2 ^ m, 0, t - m) := by unfold oB; rw [if_pos hm]; simp
      have o2 : (oB N 0 (t - m) (n : Int)).2.1 = 2 := by unfold oB okN; rw [if_neg (by simp; omega), if_pos (by omega)]
      rw [o1, o2]
      exact ⟨by decide, rfl, by decide⟩
    · left
      have o1 : (oB N 0 t (m : Int)).2.1 ≠ 0 := by
        unfold oB
        rw [if_neg hm]
        show (if _ then (2 : Int) else 14) ≠ 0
        split <;> decide
      exact ⟨by decide, o1⟩
end Go.Proofs.Ytifolinoadllbaa
