/- What a cell of a table is like, in numbers. No program in sight. -/
import Derived.Test.YtohgnohifojdbaaCe9
import Derived.Lib.BitFns
namespace Go.Proofs.Ytohgnohifojdbaa
set_option maxRecDepth 8000
open Go.RowKit Go
set_option linter.unusedVariables false

theorem bitLen_bounds : ∀ x : Nat, 0 < x → x < 2 ^ 64 → 0 < Lib.bitLen x ∧ 2 ^ (Lib.bitLen x - 1) ≤ x ∧ x < 2 ^ Lib.bitLen x := by
  intro x
  induction x using Nat.strongRecOn with
  | _ x ih =>
    intro h0 hx
    have hh := Lib.bitLen_half x (by omega) hx
    by_cases h1 : x = 1
    · subst h1
      decide
    · obtain ⟨i0, i1, i2⟩ := ih (x / 2) (by omega) (by omega) (by omega)
      obtain ⟨b, hb⟩ : ∃ b, b = Lib.bitLen (x / 2) := ⟨_, rfl⟩
      rw [← hb] at hh i0 i1 i2
      obtain ⟨b', rfl⟩ : ∃ b', b = b' + 1 := ⟨b - 1, by omega⟩
      rw [hh, show 1 + (b' + 1) - 1 = b' + 1 by omega, show 1 + (b' + 1) = b' + 1 + 1 by omega]
      rw [Nat.add_sub_cancel] at i1
      have e1 : 2 ^ (b' + 1) = 2 * 2 ^ b' := by rw [Nat.pow_succ, Nat.mul_comm]
      have e2 : 2 ^ (b' + 1 + 1) = 2 * 2 ^ (b' + 1) := by rw [Nat.pow_succ, Nat.mul_comm]
      refine ⟨by omega, ?_, ?_⟩
      · rw [e1]; omega
      · rw [e2]; omega

/-- The bits of a state x of a table with Log L. -/
def bitsX (L x : Nat) : Nat := L + 1 - Lib.bitLen x
theorem bitsX_fact {L x : Nat} (hL : L ≤ 9) (h0 : 0 < x) (hx : x < 2 ^ (L + 1)) : bitsX L x ≤ L ∧ bitsX L x + Lib.bitLen x = L + 1 ∧ 2 ^ L ≤ x * 2 ^ bitsX L x ∧ (x + 1) * 2 ^ bitsX L x ≤ 2 ^ (L + 1) := by
  have hp : 2 ^ (L + 1) ≤ 2 ^ 10 := Nat.pow_le_pow_right (by omega) (by omega)
  have hp10 : (2 : Nat) ^ 10 = 1024 := by decide
  obtain ⟨b0, b1, b2⟩ := bitLen_bounds x h0 (by omega)
  have ble := Lib.bitLen_le x (L + 1) (by omega) hx
  unfold bitsX
  refine ⟨by omega, by omega, ?_, ?_⟩
  · have h1 := Nat.mul_le_mul_right (2 ^ (L + 1 - Lib.bitLen x)) b1
    rw [← Nat.pow_add, show Lib.bitLen x - 1 + (L + 1 - Lib.bitLen x) = L by omega] at h1
    exact h1
  · have h1 := Nat.mul_le_mul_right (2 ^ (L + 1 - Lib.bitLen x)) (show x + 1 ≤ 2 ^ Lib.bitLen x from b2)
    rw [← Nat.pow_add, show Lib.bitLen x + (L + 1 - Lib.bitLen x) = L + 1 by omega] at h1
    exact h1

/-- A cell of a table. -/
theorem cell_fact {L : Nat} {zs : List Int} (hT : okT (L : Int) zs) {k : Nat} (hk : k < 2 ^ L) : ∃ (v x n : Nat) (z : Int), v < zs.length ∧ zs[v]? = some z ∧ -1 ≤ z ∧ absZ z = (n : Int) ∧ 0 < n ∧ (spreadL (2 ^ L) zs)[k]? = some (v : Int) ∧
    (buildL L zs)[k]? = some ((v : Int), (bitsX L x : Int), (x : Int) * 2 ^ bitsX L x - ((2 ^ L : Nat) : Int)) ∧ x = n + ((spreadL (2 ^ L) zs).take k).count (v : Int) ∧ x < 2 * n ∧ x < 2 ^ (L + 1) ∧ (spreadL (2 ^ L) zs).count (v : Int) = n := by
  obtain ⟨v, z, hv, hpl, hz, hz1, hz0, hx, hx2, hxa, hbit⟩ := at_index hT hk
  have hc := spreadL_count hT v hv
  have hlt := count_take_lt hpl
  rw [normAt_of hz] at hc
  refine ⟨v, xAt zs (spreadL (2 ^ L) zs) k, (spreadL (2 ^ L) zs).count (v : Int), z, hv, hz, hz1, hc.symm, by omega, hpl, ?_, by omega, by omega, hx2, rfl⟩
  unfold buildL
  rw [List.getElem?_map, List.getElem?_range hk, Option.map_some]
  unfold cellAt
  rw [List.getD_eq_getElem?_getD, hpl]
  rfl
end Go.Proofs.Ytohgnohifojdbaa
