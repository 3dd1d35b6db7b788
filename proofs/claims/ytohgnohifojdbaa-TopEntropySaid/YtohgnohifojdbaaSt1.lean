/- The indices of a symbol; the predecessor of a state. No program in sight. -/
import Derived.Test.YtohgnohifojdbaaCeN
namespace Go.Proofs.Ytohgnohifojdbaa
set_option maxRecDepth 8000
open Go.RowKit Go
set_option linter.unusedVariables false

/-- The indices below k that bear the symbol s. -/
def posN (pl : List Int) (s : Int) (k : Nat) : List Nat := (List.range k).filter fun i => decide (pl[i]? = some s)
def posZ (pl : List Int) (s : Int) (k : Nat) : List Int := (posN pl s k).map fun i : Nat => (i : Int)
theorem posN_succ (pl : List Int) (s : Int) (k : Nat) : posN pl s (k + 1) = posN pl s k ++ (if pl[k]? = some s then [k] else []) := by
  unfold posN
  rw [List.range_succ, List.filter_append]
  congr 1
  by_cases h : pl[k]? = some s <;> simp [h]
theorem posZ_succ (pl : List Int) (s : Int) (k : Nat) : posZ pl s (k + 1) = posZ pl s k ++ (if pl[k]? = some s then [(k : Int)] else []) := by
  unfold posZ
  rw [posN_succ, List.map_append]
  congr 1
  split <;> rfl
theorem posN_count (pl : List Int) (s : Int) : ∀ k, k ≤ pl.length → (posN pl s k).length = (pl.take k).count s
  | 0, _ => by simp [posN]
  | k + 1, h => by
    have hk : pl[k]? = some pl[k] := List.getElem?_eq_getElem (by omega)
    rw [posN_succ, List.length_append, posN_count pl s k (by omega), List.take_add_one, hk, List.count_append]
    congr 1
    by_cases he : pl[k] = s
    · simp [he]
    · simp [he]
theorem posZ_length (pl : List Int) (s : Int) (k : Nat) : (posZ pl s k).length = (posN pl s k).length := by simp [posZ]
theorem posN_le (pl : List Int) (s : Int) (k : Nat) : (posN pl s k).length ≤ k := by
  have := List.length_filter_le (fun i => decide (pl[i]? = some s)) (List.range k)
  rw [List.length_range] at this
  exact this
/-- The index at which a symbol stands for the (j+1)th time. -/
theorem posN_at (pl : List Int) (s : Int) : ∀ (k j : Nat), k ≤ pl.length → j < (posN pl s k).length → ∃ i, (posN pl s k)[j]? = some i ∧ i < k ∧ pl[i]? = some s ∧ (pl.take i).count s = j
  | 0, j, _, h => absurd h (by simp [posN])
  | k + 1, j, hk, h => by
    by_cases hj : j < (posN pl s k).length
    · obtain ⟨i, h1, h2, h3, h4⟩ := posN_at pl s k j (by omega) hj
      refine ⟨i, ?_, by omega, h3, h4⟩
      rw [posN_succ, List.getElem?_append_left hj, h1]
    · rw [posN_succ, List.length_append] at h
      by_cases he : pl[k]? = some s
      · rw [if_pos he] at h
        simp at h
        refine ⟨k, ?_, by omega, he, ?_⟩
        · rw [posN_succ, if_pos he, List.getElem?_append_right (by omega), show j - (posN pl s k).length = 0 by omega]
          rfl
        · rw [← posN_count pl s k (by omega)]
          omega
      · rw [if_neg he] at h
        simp at h
        omega

/-- How often x is halved until it is below 2 n. -/
def predN : Nat → Nat → Nat → Nat
  | 0, _, _ => 0
  | f + 1, x, n => if x < 2 * n then 0 else predN f (x / 2) n + 1
theorem predN_fact : ∀ (f x n : Nat), 0 < n → n ≤ x → x < 2 ^ f → n ≤ x / 2 ^ predN f x n ∧ x / 2 ^ predN f x n < 2 * n
  | 0, x, n, h0, h1, h2 => by simp at h2; omega
  | f + 1, x, n, h0, h1, h2 => by
    unfold predN
    split
    · next h => rw [Nat.pow_zero, Nat.div_one]; exact ⟨h1, h⟩
    · next h =>
      have ih := predN_fact f (x / 2) n h0 (by omega) (by rw [Nat.pow_succ] at h2; omega)
      rw [Nat.div_div_eq_div_mul, Nat.mul_comm, ← Nat.pow_succ] at ih
      exact ih
/-- A number of halvings that reaches below 2 n, all of whose forerunners do not, is it. -/
theorem predN_least : ∀ (f x n j : Nat), 0 < n → n ≤ x → x < 2 ^ f → x / 2 ^ j < 2 * n → (∀ i, i < j → 2 * n ≤ x / 2 ^ i) → predN f x n = j
  | 0, x, n, j, h0, h1, h2, _, _ => by simp at h2; omega
  | f + 1, x, n, j, h0, h1, h2, h3, h4 => by
    unfold predN
    cases j with
    | zero =>
      rw [Nat.pow_zero, Nat.div_one] at h3
      rw [if_pos h3]
    | succ j =>
      have h5 := h4 0 (by omega)
      rw [Nat.pow_zero, Nat.div_one] at h5
      rw [if_neg (by omega)]
      congr 1
      refine predN_least f (x / 2) n j h0 (by omega) (by rw [Nat.pow_succ] at h2; omega) ?_ ?_
      · rw [Nat.div_div_eq_div_mul, Nat.mul_comm, ← Nat.pow_succ]; exact h3
      · intro i hi
        have := h4 (i + 1) (by omega)
        rw [Nat.div_div_eq_div_mul, Nat.mul_comm 2 (2 ^ i), ← Nat.pow_succ]
        exact this
/-- The bits of the state that a state x of 2^L .. 2^(L+1)-1 comes from. -/
theorem pred_bits {L x N X : Nat} (hL : L ≤ 9) (h1 : 2 ^ L ≤ x) (h2 : x < 2 ^ (L + 1)) (hX : X = x / 2 ^ N) (hX0 : 0 < X) : bitsX L X = N := by
  have hp : 2 ^ (L + 1) ≤ 2 ^ 10 := Nat.pow_le_pow_right (by omega) (by omega)
  have hp10 : (2 : Nat) ^ 10 = 1024 := by decide
  have hNx : 2 ^ N ≤ x := by
    rcases Nat.lt_or_ge x (2 ^ N) with h | h
    · rw [Nat.div_eq_of_lt h] at hX; omega
    · exact h
  have hb := Lib.bitLen_shift N x hNx (by omega)
  rw [← hX] at hb
  obtain ⟨a0, a1, a2⟩ := bitLen_bounds x (by omega) (by omega)
  have h3 := Lib.bitLen_le x (L + 1) (by omega) h2
  have h4 : L < Lib.bitLen x := by
    rcases Nat.lt_or_ge L (Lib.bitLen x) with h | h
    · exact h
    · have := Nat.pow_le_pow_right (n := 2) (by omega) h
      omega
  unfold bitsX
  omega

/-- The predecessor of the state st for the symbol v with n states: its index, its bits, their number. -/
def predX (L n st : Nat) : Nat := (st + 2 ^ L) / 2 ^ predN 64 (st + 2 ^ L) n
theorem pred_cell {L : Nat} {zs : List Int} (hT : okT (L : Int) zs) {v n st : Nat} {z : Int} (hz : zs[v]? = some z) (hzn : absZ z = (n : Int)) (hn : 0 < n) (hst : st < 2 ^ L) :
    ∃ k, k < 2 ^ L ∧ n ≤ predX L n st ∧ predX L n st < 2 * n ∧ n = (posN (spreadL (2 ^ L) zs) (v : Int) (2 ^ L)).length ∧ (posN (spreadL (2 ^ L) zs) (v : Int) (2 ^ L))[predX L n st - n]? = some k ∧ predN 64 (st + 2 ^ L) n ≤ L ∧
      (buildL L zs)[k]? = some ((v : Int), ((predN 64 (st + 2 ^ L) n : Nat) : Int), ((predX L n st * 2 ^ predN 64 (st + 2 ^ L) n : Nat) : Int) - ((2 ^ L : Nat) : Int)) := by
  have hL : L ≤ 9 := by have := hT.1; omega
  have hp : 2 ^ L ≤ 2 ^ 9 := Nat.pow_le_pow_right (by omega) hL
  have hp9 : (2 : Nat) ^ 9 = 512 := by decide
  have hp1 : 2 ^ (L + 1) = 2 ^ L * 2 := Nat.pow_succ _ _
  have hv : v < zs.length := by
    rcases Nat.lt_or_ge v zs.length with h1 | h1
    · exact h1
    · rw [List.getElem?_eq_none h1] at hz; cases hz
  have hc := spreadL_count hT v hv
  rw [normAt_of hz, hzn] at hc
  have hlen : n = (posN (spreadL (2 ^ L) zs) (v : Int) (2 ^ L)).length := by
    rw [posN_count _ _ _ (by rw [spreadL_length]; exact Nat.le_refl _), List.take_of_length_le (by rw [spreadL_length]; exact Nat.le_refl _)]
    omega
  have hnS : n ≤ 2 ^ L := by rw [hlen]; exact posN_le _ _ _
  obtain ⟨h1, h2⟩ := predN_fact 64 (st + 2 ^ L) n hn (by omega) (by omega)
  obtain ⟨k, e1, e2, e3, e4⟩ := posN_at (spreadL (2 ^ L) zs) (v : Int) (2 ^ L) (predX L n st - n) (by rw [spreadL_length]; exact Nat.le_refl _) (by unfold predX; omega)
  have hbits := pred_bits (L := L) (x := st + 2 ^ L) (N := predN 64 (st + 2 ^ L) n) (X := predX L n st) hL (by omega) (by omega) rfl (by unfold predX; omega)
  obtain ⟨v', x, n', z', hv', hz', hz1, hzn', hn', hpl, hbl, hx, hx2, hx3, _⟩ := cell_fact hT (k := k) e2
  rw [e3] at hpl
  injection hpl with hpl
  have hvv : v' = v := by omega
  subst hvv
  rw [hz] at hz'
  injection hz' with hz'
  subst hz'
  have hnn : n' = n := by rw [hzn] at hzn'; omega
  subst hnn
  have hxX : x = predX L n' st := by rw [hx, e4]; unfold predX; omega
  rw [hxX, hbits] at hbl
  refine ⟨k, e2, h1, h2, hlen, e1, ?_, ?_⟩
  · have := (bitsX_fact (L := L) (x := predX L n' st) hL (by unfold predX; omega) (by rw [← hxX]; exact hx3)).1
    omega
  · rw [hbl]
    simp
end Go.Proofs.Ytohgnohifojdbaa
