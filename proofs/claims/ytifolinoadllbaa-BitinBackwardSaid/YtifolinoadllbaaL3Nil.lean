/- portmanteaulaw03.BitinNil walked. -/
import Derived.Test.YtifolinoadllbaaInZ2
namespace Go.Proofs.Ytifolinoadllbaa
open Go.RowKit Go
set_option linter.unusedVariables false

/-- How many bits Peek looks at. -/
def clampN (n : Int) : Nat := (min (max n 0) 64).toNat
theorem clampN_int (n : Int) : min (max n 0) 64 = (clampN n : Int) := by unfold clampN; omega
theorem clampN_le (n : Int) : clampN n ≤ 64 := by unfold clampN; omega

theorem bpeek_int {w : World} {lo hi g : Nat} {T : TypeId} {bs : List Nat} {f t : Nat} (h : Rdr w lo hi g T bs f t) (n : Int) :
    Calls Try.prog 14 #[.pointer (some ⟨g, 0, none⟩), .int .i64 n] w fun e w' =>
      e = .returned (.int .u64 ((pk (leN bs) f t (clampN n) : Nat) : Int)) ∧ Below w.heap.size w w' := by
  have hb := h.bounds
  have hc := clampN_int n
  have hk := clampN_le n
  generalize clampN n = k at hc hk ⊢
  obtain ⟨A, m, c, hr, h1, h2, h3, h4⟩ := h
  by_cases ht : f + k ≤ t
  · have e : pk (leN bs) f t k = leN bs / 2 ^ (t - k) % 2 ^ k := by
      unfold pk
      rw [Nat.min_eq_left (by omega)]
      simp
    rw [e]
    exact bpeek_full_c w hr hc hk (to_ := t - k) (by omega) (by omega)
  · have e : pk (leN bs) f t k = leN bs / 2 ^ f % 2 ^ (t - f) * 2 ^ (k - (t - f)) := by
      unfold pk
      rw [Nat.min_eq_right (by omega), show t - (t - f) = f by omega]
    rw [e]
    exact bpeek_part_c w hr hc hk (has := t - f) (d := k - (t - f)) (by omega) (by omega) (by omega)

set_option maxRecDepth 4000 in
set_option maxHeartbeats 40000000 in
theorem walk_BitinNil {w : World} (n : Int) (wn : (Lit.int .i64 n).wf = true) :
    Calls Try.prog 8 #[.int .i64 n] w fun e w' => e = .returned (.bool true) ∧ Below w.heap.size w w' := by
  have hcase : (n < 0 ∧ oF 0 0 0 n = (0, 2, 0) ∧ oB 0 0 0 n = (0, 2, 0)) ∨ (¬ n < 0 ∧ 64 < n ∧ oF 0 0 0 n = (0, 2, 0) ∧ oB 0 0 0 n = (0, 2, 0)) ∨ (n = 0 ∧ oF 0 0 0 n = (0, 0, 0) ∧ oB 0 0 0 n = (0, 0, 0)) ∨
      (¬ n < 0 ∧ ¬ 64 < n ∧ (n == 0) = false ∧ oF 0 0 0 n = (0, 3, 0) ∧ oB 0 0 0 n = (0, 14, 0)) := by
    by_cases h3 : n = 0
    · right; right; left
      subst h3
      decide
    · have hk : okN 0 0 n = false := by unfold okN; rw [decide_eq_false_iff_not]; omega
      by_cases h1 : n < 0
      · left
        simp [oF, oB, hk, h1]
      · by_cases h2 : 64 < n
        · right; left
          simp [oF, oB, hk, h1, h2]
        · right; right; right
          simp [oF, oB, hk, h1, h2, h3]
  have hz : ∀ c, pk 0 0 0 c = 0 := by intro c; unfold pk; simp
  have hl : leN [] = 0 := rfl
  have tF := fun W lo hi g (r : Rdr W lo hi g 57 [] 0 0) => ftake_out r n
  have tB := fun W lo hi g (r : Rdr W lo hi g 58 [] 0 0) => btake_out r n
  have tS := fun W lo hi g (r : Rdr W lo hi g 58 [] 0 0) => bskip_out r n
  have tP := fun W lo hi g (r : Rdr W lo hi g 58 [] 0 0) => bpeek_int r n
  have tA := fun W lo hi g (r : Rdr W lo hi g 57 [] 0 0) => align_out r rfl
  rw [hl] at tF tB tS tP tA
  simp only [hz, show oA 0 0 = (0, 0, 0) from by decide, show ((0 : Nat) : Int) = 0 from rfl] at tP tA
  have TP := hide tP
  have TA := hide tA
  have HKN := hide known_any
  clear wn hz hl tP tA
  rcases hcase with ⟨h1, hF, hB⟩ | ⟨h1, h2, hF, hB⟩ | ⟨rfl, hF, hB⟩ | ⟨h1, h2, h3, hF, hB⟩
  all_goals
    simp only [hF, hB, show ((0 : Nat) : Int) = 0 from rfl] at tF tB tS
    have TF := hide tF
    have TB := hide tB
    have TS := hide tS
    clear tF tB tS hF hB
    have ZF := hide (rdr_zero w 57)
    have B0 := hide ((Below.refl w.heap.size w).alloc (Nat.le_refl _) (.cells #[.slice none 0 0, .int .i64 0, .int .i64 0] 57 (0, 0)))
    obtain ⟨W1, e1⟩ : ∃ W1, W1 = w.alloc (.cells #[.slice none 0 0, .int .i64 0, .int .i64 0] 57 (0, 0)) := ⟨_, rfl⟩
    have hs1 : W1.heap.size = w.heap.size + 1 := by rw [e1]; simp
    have ZB := hide (rdr_zero W1 58)
    have B1 := hide ((Below.refl W1.heap.size W1).alloc (Nat.le_refl _) (.cells #[.slice none 0 0, .int .i64 0, .int .i64 0] 58 (0, 0)))
    rw [← e1] at ZF B0
    obtain ⟨W2, e2⟩ : ∃ W2, W2 = W1.alloc (.cells #[.slice none 0 0, .int .i64 0, .int .i64 0] 58 (0, 0)) := ⟨_, rfl⟩
    rw [← e2] at ZB B1
    replace ZF := hide (ZF.out.below (B1.out.mono (by omega)))
    have B := hide (B0.out.trans (B1.out.mono B0.out.size))
    have E1 := hide e1
    have E2 := hide e2
    rw [hs1] at ZB
    have HS := hide hs1
    clear B0 B1 e1 e2 hs1
    go_enter Try.func8, Try.ntmps8
    go_wp2_with fail
    refine (ftake_nil _ _).mono ?_
    rintro e W ⟨rfl, rfl⟩
    go_wp2_with fail
    refine (align_nil _).mono ?_
    rintro e W ⟨rfl, rfl⟩
    go_wp2_with fail
    refine (btake_nil _ _).mono ?_
    rintro e W ⟨rfl, rfl⟩
    rw [← E1.out, ← E2.out]
    clear E1 E2
    go_wp2_with fail
    refine (TF.out _ _ _ _ ZF.out).mono ?_
    rintro e W ⟨rfl, r, ch⟩
    replace ZF := hide r
    replace ZB := hide (ZB.out.chg ch (by rintro b rfl; omega))
    replace B := hide (B.out.trans (ch.below (by rintro b rfl; exact Nat.le_refl _) B.out.size))
    clear r ch
    go_wp2_with fail
    refine (TA.out _ _ _ _ ZF.out).mono ?_
    rintro e W ⟨rfl, r, ch⟩
    replace ZF := hide r
    replace ZB := hide (ZB.out.chg ch (by rintro b rfl; omega))
    replace B := hide (B.out.trans (ch.below (by rintro b rfl; exact Nat.le_refl _) B.out.size))
    clear r ch
    go_wp2_with fail
    refine (TB.out _ _ _ _ ZB.out).mono ?_
    rintro e W ⟨rfl, r, ch⟩
    replace ZB := hide r
    replace ZF := hide (ZF.out.chg ch (by rintro b rfl; omega))
    replace B := hide (B.out.trans (ch.below (by rintro b rfl; omega) B.out.size))
    clear r ch
    go_wp2_with fail
    refine (bskip_nil _ _).mono ?_
    rintro e W ⟨rfl, rfl⟩
    go_wp2_with fail
    refine (fat_nil _).mono ?_
    rintro e W ⟨rfl, rfl⟩
    go_wp2_with fail
    refine (fleft_nil _).mono ?_
    rintro e W ⟨rfl, rfl⟩
    go_wp2_with fail
    refine (bleft_nil _).mono ?_
    rintro e W ⟨rfl, rfl⟩
    go_wp2_with fail
    refine (bpeek_nil _ _).mono ?_
    rintro e W ⟨rfl, rfl⟩
    go_wp2_with fail
    refine (TS.out _ _ _ _ ZB.out).mono ?_
    rintro e W ⟨rfl, r, ch⟩
    replace ZB := hide r
    replace ZF := hide (ZF.out.chg ch (by rintro b rfl; omega))
    replace B := hide (B.out.trans (ch.below (by rintro b rfl; omega) B.out.size))
    clear r ch
    go_wp2_with fail
    refine (TP.out _ _ _ _ ZB.out).mono ?_
    rintro e W ⟨rfl, b⟩
    replace ZB := hide (ZB.out.below b)
    replace ZF := hide (ZF.out.below b)
    replace B := hide (B.out.trans (b.mono B.out.size))
    clear b
    go_wp2_with fail
    refine (fat_below ZF.out).mono ?_
    rintro e W ⟨rfl, b⟩
    replace ZB := hide (ZB.out.below b)
    replace ZF := hide (ZF.out.below b)
    replace B := hide (B.out.trans (b.mono B.out.size))
    clear b
    go_wp2_with fail
    refine (fleft_below ZF.out).mono ?_
    rintro e W ⟨rfl, b⟩
    replace ZB := hide (ZB.out.below b)
    replace ZF := hide (ZF.out.below b)
    replace B := hide (B.out.trans (b.mono B.out.size))
    clear b
    go_wp2_with fail
    refine (bleft_below ZB.out).mono ?_
    rintro e W ⟨rfl, b⟩
    replace ZB := hide (ZB.out.below b)
    replace B := hide (B.out.trans (b.mono B.out.size))
    clear b
    go_wp2_with fail
    refine (HKN.out _).mono ?_
    rintro e W3 ⟨rfl, b⟩
    replace B := hide (B.out.trans (b.mono B.out.size))
    clear b
    go_wp2
    go_ret
    exact ⟨rfl, B.out⟩
end Go.Proofs.Ytifolinoadllbaa
