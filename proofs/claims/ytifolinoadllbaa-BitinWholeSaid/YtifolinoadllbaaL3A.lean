/- portmanteaulaw03.known walked. -/
import Derived.Test.YtifolinoadllbaaInK
namespace Go.Proofs.Ytifolinoadllbaa
open Go.RowKit
set_option linter.unusedVariables false

theorem reads_one (w : World) (x : Nat) (t : TypeId) : Reads (w.alloc (.cells #[.int .u8 (x : Int)] t)) (w.alloc (.cells #[.int .u8 (x : Int)] t)).heap.size 1 (some ⟨w.heap.size, 0, none⟩) 1 (u8s [x]) := by
  rw [size_alloc_w]; exact reads_new w _ t
theorem reads_two (w : World) (x y : Nat) (t : TypeId) : Reads (w.alloc (.cells #[.int .u8 (x : Int), .int .u8 (y : Int)] t)) (w.alloc (.cells #[.int .u8 (x : Int), .int .u8 (y : Int)] t)).heap.size 1 (some ⟨w.heap.size, 0, none⟩) 2 (u8s [x, y]) := by
  refine ⟨rfl, fun _ => ⟨_, rfl, by simp, fun j u hu => ?_⟩⟩
  have hh := alloc_new w (.cells #[.int .u8 (x : Int), .int .u8 (y : Int)] t (0, 0)) rfl
  match j, hu with
  | 0, hu => exact (cell_blk hh 0).trans hu
  | 1, hu => exact (cell_blk hh 1).trans hu
theorem reads_zero (w : World) : Reads w w.heap.size 1 none 0 (u8s []) := Reads.none_

set_option maxHeartbeats 4000000 in
theorem known_any (w : World) : Calls Try.prog 11 #[] w fun e w' => e = .returned (.bool true) ∧ Below w.heap.size w w' := by
  have hk := fun W => newb_of (some ⟨W.heap.size, 0, none⟩) 1 1 [45] (W.alloc (.cells #[.int .u8 45] 5)) (reads_one W 45 _) (by decide) rfl (by decide) (by decide) (T := 5) (by decide)
  have hz := fun W => newb_of (some ⟨W.heap.size, 0, none⟩) 1 1 [1] (W.alloc (.cells #[.int .u8 1] 5)) (reads_one W 1 _) (by decide) rfl (by decide) (by decide) (T := 0) (by decide)
  have hf := fun W => newf_of (some ⟨W.heap.size, 0, none⟩) 1 1 [45] (W.alloc (.cells #[.int .u8 45] 5)) (reads_one W 45 _) (by decide) rfl (by decide)
  have hx := fun W => newb_bad (some ⟨W.heap.size, 0, none⟩) 2 2 [45, 0] (W.alloc (.cells #[.int .u8 45, .int .u8 0] 5)) (reads_two W 45 0 _) rfl rfl (by decide)
  have hy := fun W => newb_bad none 0 0 [] W (reads_zero W) rfl rfl (by decide)
  have HK := hide hk
  have HZ := hide hz
  have HF := hide hf
  have HX := hide hx
  have HY := hide hy
  clear hk hz hf hx hy
  go_enter Try.func11, Try.ntmps11
  go_wp2_with fail
  refine (HF.out _).mono ?_
  rintro e W1 ⟨g1, rfl, r1, b1⟩
  have B := hide (((Below.refl w.heap.size w).alloc (Nat.le_refl _) _).trans (b1.mono (by simp)))
  have R1 := hide (r1.low (lo' := w.heap.size) (by simp))
  obtain ⟨h1, e1⟩ : ∃ h1, h1 = W1.heap.size := ⟨_, rfl⟩
  rw [← e1] at R1
  have E1 := hide e1
  clear r1 b1 e1
  go_wp2_with fail
  refine (HK.out _).mono ?_
  rintro e W2 ⟨g2, rfl, r2, b2⟩
  have b12 := ((Below.refl W1.heap.size W1).alloc (Nat.le_refl _) _).trans (b2.mono (by simp))
  replace B := hide (B.out.trans (b12.mono B.out.size))
  replace R1 := hide (R1.out.below b12)
  have R2 := hide (r2.low (lo' := h1) (by rw [E1.out]; simp))
  obtain ⟨h2, e2⟩ : ∃ h2, h2 = W2.heap.size := ⟨_, rfl⟩
  rw [← e2] at R2
  have E2 := hide e2
  clear r2 b2 b12 e2 E1
  go_wp2_with fail
  refine (HX.out _).mono ?_
  rintro e W2' ⟨rfl, j, rfl⟩
  have b3 := below_drewN ((Below.refl W2.heap.size W2).alloc (Nat.le_refl _) (.cells #[.int .u8 45, .int .u8 0] 5)) j
  obtain ⟨W3, e3⟩ : ∃ W3, W3 = (W2.alloc (.cells #[.int .u8 45, .int .u8 0] 5)).drewN j := ⟨_, rfl⟩
  rw [← e3] at b3 ⊢
  have E3 := hide e3
  replace B := hide (B.out.trans (b3.mono B.out.size))
  replace R1 := hide (R1.out.below b3)
  replace R2 := hide (R2.out.below b3)
  have S3 := hide b3.size
  clear b3 e3
  go_wp2_with fail
  refine (HY.out _).mono ?_
  rintro e W3' ⟨rfl, j4, rfl⟩
  have b4 := below_drewN (Below.refl W3.heap.size W3) j4
  obtain ⟨W4, e4⟩ : ∃ W4, W4 = W3.drewN j4 := ⟨_, rfl⟩
  rw [← e4] at b4 ⊢
  replace B := hide (B.out.trans (b4.mono B.out.size))
  replace R1 := hide (R1.out.below b4)
  replace R2 := hide (R2.out.below b4)
  have S4 := hide (Nat.le_trans S3.out b4.size)
  clear b4 e4 E3
  go_wp2_with fail
  refine (HZ.out _).mono ?_
  rintro e W5 ⟨g3, rfl, r3, b5⟩
  have b6 := ((Below.refl W4.heap.size W4).alloc (Nat.le_refl _) _).trans (b5.mono (by simp))
  replace B := hide (B.out.trans (b6.mono B.out.size))
  replace R1 := hide (R1.out.below b6)
  replace R2 := hide (R2.out.below b6)
  have R3 := hide (r3.low (lo' := h2) (by have := S4.out; have := E2.out; simp; omega))
  obtain ⟨h3, e5⟩ : ∃ h3, h3 = W5.heap.size := ⟨_, rfl⟩
  rw [← e5] at R3
  have l1 := R1.out.lt
  have l2 := R2.out.lt
  have l3 := R3.out.lt
  obtain ⟨n0, en⟩ : ∃ n0, n0 = w.heap.size := ⟨_, rfl⟩
  rw [← en] at l1
  have LL := hide (show n0 ≤ g1 ∧ g1 < h1 ∧ h1 ≤ g2 ∧ g2 < h2 ∧ h2 ≤ g3 ∧ g3 < h3 by omega)
  rw [← en] at R1
  have EN := hide en
  clear r3 b5 b6 e5 S3 S4 E2 l1 l2 l3 en
  go_wp2_with fail
  refine (ftake_good R1.out 3 (by omega) (by omega)).mono ?_
  rintro e W ⟨rfl, r, c⟩
  rw [show leN [45] / 2 ^ 0 % 2 ^ 3 = 5 from by decide]
  replace R1 := hide r
  replace R2 := hide (R2.out.chg c (by rintro b rfl; have := LL.out; omega))
  replace R3 := hide (R3.out.chg c (by rintro b rfl; have := LL.out; omega))
  replace B := hide (B.out.trans (c.below (by rintro b rfl; have := LL.out; have := EN.out; omega) B.out.size))
  clear r c
  go_wp2_with fail
  refine (ftake_good R1.out 2 (by omega) (by omega)).mono ?_
  rintro e W ⟨rfl, r, c⟩
  rw [show leN [45] / 2 ^ (0 + 3) % 2 ^ 2 = 1 from by decide]
  replace R1 := hide r
  replace R2 := hide (R2.out.chg c (by rintro b rfl; have := LL.out; omega))
  replace R3 := hide (R3.out.chg c (by rintro b rfl; have := LL.out; omega))
  replace B := hide (B.out.trans (c.below (by rintro b rfl; have := LL.out; have := EN.out; omega) B.out.size))
  clear r c
  go_wp2_with fail
  refine (ftake_good R1.out 3 (by omega) (by omega)).mono ?_
  rintro e W ⟨rfl, r, c⟩
  rw [show leN [45] / 2 ^ (0 + 3 + 2) % 2 ^ 3 = 1 from by decide]
  replace R1 := hide r
  replace R2 := hide (R2.out.chg c (by rintro b rfl; have := LL.out; omega))
  replace R3 := hide (R3.out.chg c (by rintro b rfl; have := LL.out; omega))
  replace B := hide (B.out.trans (c.below (by rintro b rfl; have := LL.out; have := EN.out; omega) B.out.size))
  clear r c
  go_wp2_with fail
  refine (ftake_few R1.out 1 (by omega) (by omega)).mono ?_
  rintro e W ⟨rfl, r, c⟩
  replace R1 := hide r
  replace R2 := hide (R2.out.chg c (by rintro b rfl; have := LL.out; omega))
  replace R3 := hide (R3.out.chg c (by rintro b rfl; have := LL.out; omega))
  replace B := hide (B.out.trans (c.below (by rintro b rfl; have := LL.out; have := EN.out; omega) B.out.size))
  clear r c
  go_wp2_with fail
  refine (bpeek_all R2.out 4 1 (by omega) (by omega) (by omega)).mono ?_
  rintro e W ⟨rfl, c⟩
  rw [show leN [45] / 2 ^ 1 % 2 ^ 4 = 6 from by decide]
  replace R1 := hide (R1.out.below c)
  replace R2 := hide (R2.out.below c)
  replace R3 := hide (R3.out.below c)
  replace B := hide (B.out.trans (c.mono B.out.size))
  clear c
  go_wp2_with fail
  refine (btake_good R2.out 2 3 (by omega) (by omega) (by omega)).mono ?_
  rintro e W ⟨rfl, r, c⟩
  rw [show leN [45] / 2 ^ 3 % 2 ^ 2 = 1 from by decide]
  replace R2 := hide r
  replace R1 := hide (R1.out.chg c (by rintro b rfl; have := LL.out; omega))
  replace R3 := hide (R3.out.chg c (by rintro b rfl; have := LL.out; omega))
  replace B := hide (B.out.trans (c.below (by rintro b rfl; have := LL.out; have := EN.out; omega) B.out.size))
  clear r c
  go_wp2_with fail
  refine (btake_good R2.out 3 0 (by omega) (by omega) (by omega)).mono ?_
  rintro e W ⟨rfl, r, c⟩
  rw [show leN [45] / 2 ^ 0 % 2 ^ 3 = 5 from by decide]
  replace R2 := hide r
  replace R1 := hide (R1.out.chg c (by rintro b rfl; have := LL.out; omega))
  replace R3 := hide (R3.out.chg c (by rintro b rfl; have := LL.out; omega))
  replace B := hide (B.out.trans (c.below (by rintro b rfl; have := LL.out; have := EN.out; omega) B.out.size))
  clear r c
  go_wp2_with fail
  refine (took_any _ _ _ _ _).mono ?_
  rintro e W ⟨rfl, rfl⟩
  go_wp2_with fail
  refine (took_any _ _ _ _ _).mono ?_
  rintro e W ⟨rfl, rfl⟩
  go_wp2_with fail
  refine (took_any _ _ _ _ _).mono ?_
  rintro e W ⟨rfl, rfl⟩
  go_wp2_with fail
  refine (took_any _ _ _ _ _).mono ?_
  rintro e W ⟨rfl, rfl⟩
  go_wp2_with fail
  refine (took_any _ _ _ _ _).mono ?_
  rintro e W ⟨rfl, rfl⟩
  go_wp2_with fail
  refine (took_any _ _ _ _ _).mono ?_
  rintro e W ⟨rfl, rfl⟩
  go_wp2_with fail
  refine (bleft_below R2.out).mono ?_
  rintro e W ⟨rfl, c⟩
  replace R2 := hide (R2.out.below c)
  replace R3 := hide (R3.out.below c)
  replace B := hide (B.out.trans (c.mono B.out.size))
  clear c
  go_wp2_with fail
  refine (bpeek_few R2.out 2 0 2 (by omega) (by omega) (by omega) (by omega)).mono ?_
  rintro e W ⟨rfl, c⟩
  rw [show leN [45] / 2 ^ 0 % 2 ^ 0 * 2 ^ 2 = 0 from by decide]
  replace R3 := hide (R3.out.below c)
  replace B := hide (B.out.trans (c.mono B.out.size))
  clear c
  go_wp2_with fail
  refine (bleft_below R3.out).mono ?_
  rintro e W ⟨rfl, c⟩
  replace R3 := hide (R3.out.below c)
  replace B := hide (B.out.trans (c.mono B.out.size))
  clear c
  go_wp2
  go_ret
  exact ⟨rfl, B.out⟩
end Go.Proofs.Ytifolinoadllbaa
