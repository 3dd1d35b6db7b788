/- The spans of a symbol's cells partition the states. No program in sight. -/
import Derived.Test.YtlbpefahhecbnaaCeP
import Derived.Test.YtlbpefahhecbnaaCeM
namespace Go.Proofs.Ytlbpefahhecbnaa
open Go.RowKit Go
set_option linter.unusedVariables false

/-- The span of the state x. -/
def spLo (L x : Nat) : Nat := x * 2 ^ bitsX L x - 2 ^ L
def spLen (L x : Nat) : Nat := 2 ^ bitsX L x

theorem spansL_build {L : Nat} {zs : List Int} (hT : okT (L : Int) zs) {v n : Nat} {z : Int} (hz : zs[v]? = some z) (hzn : absZ z = (n : Int)) : ∀ k, k ≤ 2 ^ L →
    spansL (v : Int) ((buildL L zs).take k) = (List.range' n (((spreadL (2 ^ L) zs).take k).count (v : Int))).map fun x => ((spLo L x : Int), (spLen L x : Int)) := by
  intro k
  induction k with
  | zero => intro _; simp [spansL]
  | succ k ih =>
    intro hk
    have ih := ih (by omega)
    obtain ⟨v', x, n', z', hv', hz', hz1, hzn', hn', hpl, hbl, hx, hx2, hx3, _⟩ := cell_fact hT (k := k) (by omega)
    rw [spansL_snoc _ hbl, ih, take_snoc_some hpl, List.count_append]
    by_cases hvv : v' = v
    · subst hvv
      rw [hz] at hz'
      injection hz' with hz'
      subst hz'
      have hnn : n' = n := by rw [hzn] at hzn'; omega
      subst hnn
      have hL : L ≤ 9 := by have := hT.1; omega
      obtain ⟨_, _, h3, _⟩ := bitsX_fact (L := L) (x := x) hL (by omega) hx3
      rw [if_pos rfl, List.count_singleton_self, List.range'_concat, List.map_append, Nat.one_mul, ← hx]
      congr 1
      unfold spanF spLo spLen
      simp only [Int.toNat_natCast, List.map_cons, List.map_nil]
      rw [show (x : Int) * 2 ^ bitsX L x = ((x * 2 ^ bitsX L x : Nat) : Int) by simp, Int.ofNat_sub h3]
    · have h0 : [(v' : Int)].count (v : Int) = 0 := by rw [List.count_eq_zero]; simp; omega
      rw [if_neg (by simp; omega), List.append_nil, h0, Nat.add_zero]

/-- The spans of a symbol. -/
theorem spansL_all {L : Nat} {zs : List Int} (hT : okT (L : Int) zs) {v n : Nat} {z : Int} (hz : zs[v]? = some z) (hzn : absZ z = (n : Int)) : spansL (v : Int) (buildL L zs) = (List.range' n n).map fun x => ((spLo L x : Int), (spLen L x : Int)) := by
  have h := spansL_build hT hz hzn (2 ^ L) (Nat.le_refl _)
  have hv : v < zs.length := by
    rcases Nat.lt_or_ge v zs.length with h1 | h1
    · exact h1
    · rw [List.getElem?_eq_none h1] at hz; cases hz
  have hc := spreadL_count hT v hv
  rw [normAt_of hz, hzn] at hc
  rw [List.take_of_length_le (by rw [buildL_length]; exact Nat.le_refl _), List.take_of_length_le (by rw [spreadL_length]; exact Nat.le_refl _), show (spreadL (2 ^ L) zs).count (v : Int) = n by omega] at h
  exact h
/-- A symbol that has no states has no spans. -/
theorem spansL_none {L : Nat} {zs : List Int} (hT : okT (L : Int) zs) {sym : Int} (h : sym < 0 ∨ (zs.length : Int) ≤ sym ∨ (∃ v : Nat, sym = (v : Int) ∧ zs[v]? = some 0)) : spansL sym (buildL L zs) = [] := by
  unfold spansL
  rw [List.map_eq_nil_iff, List.filter_eq_nil_iff]
  intro t ht
  obtain ⟨k, hk, rfl⟩ := List.getElem_of_mem ht
  rw [buildL_length] at hk
  obtain ⟨v', x, n', z', hv', hz', hz1, hzn', hn', hpl, hbl, hx, hx2, hx3, _⟩ := cell_fact hT (k := k) hk
  rw [List.getElem?_eq_getElem (by rw [buildL_length]; exact hk)] at hbl
  injection hbl with hbl
  rw [hbl]
  simp only [beq_iff_eq]
  intro he
  rcases h with h | h | ⟨v, rfl, hz⟩
  · omega
  · omega
  · obtain rfl : v' = v := by omega
    rw [hz] at hz'
    injection hz' with hz'
    subst hz'
    have : absZ 0 = 0 := by decide
    omega

theorem sp_in {L n : Nat} (hL : L ≤ 9) (hn : 0 < n) (hnS : n ≤ 2 ^ L) {x : Nat} (h1 : n ≤ x) (h2 : x < 2 * n) : spLo L x + spLen L x ≤ 2 ^ L ∧ 0 < spLen L x ∧ spLo L x + 2 ^ L = x * 2 ^ bitsX L x := by
  obtain ⟨a1, a2, a3, a4⟩ := bitsX_fact (L := L) (x := x) hL (by omega) (by rw [Nat.pow_succ]; omega)
  rw [Nat.add_mul, Nat.one_mul, Nat.pow_succ] at a4
  unfold spLo spLen
  have : 0 < 2 ^ bitsX L x := Nat.pow_pos (by omega)
  omega
theorem sp_apart {L n : Nat} (hL : L ≤ 9) (hn : 0 < n) (hnS : n ≤ 2 ^ L) {x y : Nat} (h1 : n ≤ x) (h2 : x < y) (h3 : y < 2 * n) : spLo L y + spLen L y ≤ spLo L x ∨ spLo L x + spLen L x ≤ spLo L y := by
  have hp : 2 ^ (L + 1) ≤ 2 ^ 10 := Nat.pow_le_pow_right (by omega) (by omega)
  have hp10 : (2 : Nat) ^ 10 = 1024 := by decide
  have hp1 : 2 ^ (L + 1) = 2 ^ L * 2 := Nat.pow_succ _ _
  obtain ⟨_, _, e1⟩ := sp_in hL hn hnS h1 (by omega : x < 2 * n)
  obtain ⟨_, _, e2⟩ := sp_in hL hn hnS (by omega : n ≤ y) h3
  obtain ⟨a1, a2, _, _⟩ := bitsX_fact (L := L) (x := x) hL (by omega) (by omega)
  obtain ⟨c1, c2, _, _⟩ := bitsX_fact (L := L) (x := y) hL (by omega) (by omega)
  obtain ⟨f1, f2, f3⟩ := bitLen_bounds x (by omega) (by omega)
  obtain ⟨g1, g2, g3⟩ := bitLen_bounds y (by omega) (by omega)
  have hanti := bitsX_anti (L := L) (x := x) (y := y) (by omega) (by omega) (by omega) (by omega)
  have hup : Lib.bitLen y ≤ Lib.bitLen x + 1 := by
    refine Lib.bitLen_le y _ (by omega) ?_
    rw [Nat.pow_succ]
    omega
  unfold spLen
  rcases Nat.lt_or_ge (bitsX L y) (bitsX L x) with h | h
  · left
    have hb : bitsX L x = bitsX L y + 1 := by omega
    rw [hb, Nat.pow_succ] at e1
    have h4 : (y + 1) * 2 ^ bitsX L y ≤ (x * 2) * 2 ^ bitsX L y := Nat.mul_le_mul_right _ (by omega)
    rw [Nat.add_mul, Nat.one_mul, Nat.mul_assoc, Nat.mul_comm 2] at h4
    omega
  · right
    have hb : bitsX L x = bitsX L y := by omega
    rw [hb] at e1 ⊢
    have h4 : (x + 1) * 2 ^ bitsX L y ≤ y * 2 ^ bitsX L y := Nat.mul_le_mul_right _ (by omega)
    rw [Nat.add_mul, Nat.one_mul] at h4
    omega

/-- The sum of the first i spans. -/
def spSum (L n : Nat) : Nat → Nat
  | 0 => 0
  | i + 1 => spSum L n i + spLen L (n + i)
theorem sum_form {L n : Nat} (hL : L ≤ 9) (hn : 0 < n) (hnS : n ≤ 2 ^ L) : ∀ i, i ≤ n → (n + i ≤ 2 ^ Lib.bitLen n ∧ spSum L n i + n * 2 ^ bitsX L n = (n + i) * 2 ^ bitsX L n) ∨ (2 ^ Lib.bitLen n < n + i ∧ Lib.bitLen n ≤ L ∧ spSum L n i + n * 2 ^ bitsX L n = (n + i) * 2 ^ (L - Lib.bitLen n) + 2 ^ L) := by
  have hp : 2 ^ (L + 1) ≤ 2 ^ 10 := Nat.pow_le_pow_right (by omega) (by omega)
  have hp10 : (2 : Nat) ^ 10 = 1024 := by decide
  have hp1 : 2 ^ (L + 1) = 2 ^ L * 2 := Nat.pow_succ _ _
  obtain ⟨f1, f2, f3⟩ := bitLen_bounds n hn (by omega)
  obtain ⟨a1, a2, _, _⟩ := bitsX_fact (L := L) (x := n) hL hn (by omega)
  intro i
  induction i with
  | zero => intro _; left; exact ⟨by omega, by simp [spSum]⟩
  | succ i ih =>
    intro hi
    have ih := ih (by omega)
    rcases Nat.lt_or_ge (n + i) (2 ^ Lib.bitLen n) with h | h
    · left
      have hb : bitsX L (n + i) = bitsX L n := by
        have h0 := bitsX_anti (L := L) (x := n) (y := n + i) (by omega) (by omega) (by omega) hn
        have h1 := Lib.bitLen_le (n + i) (Lib.bitLen n) (by omega) h
        unfold bitsX at h0 ⊢
        omega
      rcases ih with ⟨_, ih⟩ | ⟨hc, _⟩
      · refine ⟨by omega, ?_⟩
        show spSum L n i + spLen L (n + i) + _ = _
        unfold spLen
        rw [hb, show n + (i + 1) = (n + i) + 1 by omega, Nat.add_mul (n + i), Nat.one_mul]
        omega
      · omega
    · right
      have hbl : Lib.bitLen (n + i) = Lib.bitLen n + 1 := by
        obtain ⟨g1, g2, g3⟩ := bitLen_bounds (n + i) (by omega) (by omega)
        have hdb : 2 ^ (Lib.bitLen n - 1) * 2 = 2 ^ Lib.bitLen n := by rw [← Nat.pow_succ, Nat.succ_eq_add_one, Nat.sub_add_cancel f1]
        have h1 := Lib.bitLen_le (n + i) (Lib.bitLen n + 1) (by omega) (by rw [Nat.pow_succ]; omega)
        rcases Nat.lt_or_ge (Lib.bitLen n) (Lib.bitLen (n + i)) with h2 | h2
        · omega
        · have := Nat.pow_le_pow_right (n := 2) (by omega) h2
          omega
      obtain ⟨c1, c2, _, _⟩ := bitsX_fact (L := L) (x := n + i) hL (by omega) (by omega)
      have hbL : Lib.bitLen n ≤ L := by omega
      have hb : bitsX L (n + i) = L - Lib.bitLen n := by omega
      have hb0 : bitsX L n = (L - Lib.bitLen n) + 1 := by omega
      refine ⟨by omega, hbL, ?_⟩
      show spSum L n i + spLen L (n + i) + _ = _
      unfold spLen
      rw [hb, show n + (i + 1) = (n + i) + 1 by omega, Nat.add_mul (n + i), Nat.one_mul]
      rcases ih with ⟨hc, ih⟩ | ⟨hc, _, ih⟩
      · have he : n + i = 2 ^ Lib.bitLen n := by omega
        rw [he] at ih ⊢
        have e1 : 2 ^ Lib.bitLen n * 2 ^ (L - Lib.bitLen n) = 2 ^ L := by rw [← Nat.pow_add, Nat.add_sub_cancel' hbL]
        rw [e1]
        rw [hb0, Nat.pow_succ, ← Nat.mul_assoc, ← Nat.mul_assoc, e1] at ih
        rw [hb0, Nat.pow_succ, ← Nat.mul_assoc]
        omega
      · omega
theorem sum_all {L n : Nat} (hL : L ≤ 9) (hn : 0 < n) (hnS : n ≤ 2 ^ L) : spSum L n n = 2 ^ L := by
  have hp : 2 ^ (L + 1) ≤ 2 ^ 10 := Nat.pow_le_pow_right (by omega) (by omega)
  have hp10 : (2 : Nat) ^ 10 = 1024 := by decide
  have hp1 : 2 ^ (L + 1) = 2 ^ L * 2 := Nat.pow_succ _ _
  obtain ⟨f1, f2, f3⟩ := bitLen_bounds n hn (by omega)
  obtain ⟨a1, a2, _, _⟩ := bitsX_fact (L := L) (x := n) hL hn (by omega)
  have hb2 : 2 ^ (Lib.bitLen n - 1) * 2 = 2 ^ Lib.bitLen n := by rw [← Nat.pow_succ, Nat.succ_eq_add_one, Nat.sub_add_cancel f1]
  rcases sum_form hL hn hnS n (Nat.le_refl _) with ⟨h1, h2⟩ | ⟨h1, h2, h3⟩
  · have he : n = 2 ^ (Lib.bitLen n - 1) := by omega
    have e1 : n * 2 ^ bitsX L n = 2 ^ L := by
      calc n * 2 ^ bitsX L n = 2 ^ (Lib.bitLen n - 1) * 2 ^ bitsX L n := by rw [← he]
        _ = 2 ^ L := by rw [← Nat.pow_add]; congr 1; omega
    rw [Nat.add_mul] at h2
    omega
  · have hb0 : bitsX L n = (L - Lib.bitLen n) + 1 := by omega
    rw [hb0, Nat.pow_succ, ← Nat.mul_assoc, Nat.add_mul] at h3
    omega

/-- The states that the first i spans, and q of the next, have marked. -/
def markB (L n i q j : Nat) : Bool := decide (∃ i', i' < i ∧ spLo L (n + i') ≤ j ∧ j < spLo L (n + i') + spLen L (n + i')) || (decide (spLo L (n + i) ≤ j) && decide (j < spLo L (n + i) + q))
def markZ (L n S i q : Nat) : List Bool := (List.range S).map (markB L n i q)
theorem markZ_length (L n S i q : Nat) : (markZ L n S i q).length = S := by simp [markZ]
theorem markZ_get (L n : Nat) {S i q j : Nat} (h : j < S) : (markZ L n S i q)[j]? = some (markB L n i q j) := by simp [markZ, h]
theorem markB_zero (L n j : Nat) : markB L n 0 0 j = false := by
  unfold markB
  simp
theorem markB_next (L n i : Nat) (j : Nat) : markB L n i (spLen L (n + i)) j = markB L n (i + 1) 0 j := by
  unfold markB
  rw [Bool.eq_iff_iff]
  simp only [Bool.or_eq_true, Bool.and_eq_true, decide_eq_true_eq]
  constructor
  · rintro (⟨i', h1, h2⟩ | h)
    · exact .inl ⟨i', by omega, h2⟩
    · exact .inl ⟨i, by omega, h⟩
  · rintro (⟨i', h1, h2⟩ | h)
    · by_cases hi : i' = i
      · subst hi; exact .inr h2
      · exact .inl ⟨i', by omega, h2⟩
    · omega
theorem markB_free {L n : Nat} (hL : L ≤ 9) (hn : 0 < n) (hnS : n ≤ 2 ^ L) {i q : Nat} (hi : i < n) (hq : q < spLen L (n + i)) : markB L n i q (spLo L (n + i) + q) = false := by
  unfold markB
  simp only [Bool.or_eq_false_iff, decide_eq_false_iff_not, Bool.and_eq_false_iff]
  refine ⟨?_, .inr (by omega)⟩
  rintro ⟨i', h1, h2, h3⟩
  rcases sp_apart hL hn hnS (x := n + i') (y := n + i) (by omega) (by omega) (by omega) with h | h <;> omega
theorem markZ_set {L n S i q : Nat} (h : spLo L (n + i) + q < S) : (markZ L n S i q).set (spLo L (n + i) + q) true = markZ L n S i (q + 1) := by
  apply List.ext_getElem?
  intro j
  rcases Nat.lt_or_ge j S with hj | hj
  · rw [List.getElem?_set, markZ_get (q := q + 1) L n hj]
    by_cases hjj : spLo L (n + i) + q = j
    · subst hjj
      rw [if_pos rfl, if_pos (by rw [markZ_length]; exact hj)]
      unfold markB
      simp
    · rw [if_neg hjj, markZ_get (q := q) L n hj]
      unfold markB
      congr 2
      rw [Bool.eq_iff_iff]
      simp only [Bool.and_eq_true, decide_eq_true_eq]
      omega
  · rw [List.getElem?_eq_none (by rw [List.length_set, markZ_length]; exact hj), List.getElem?_eq_none (by rw [markZ_length]; exact hj)]
end Go.Proofs.Ytlbpefahhecbnaa
