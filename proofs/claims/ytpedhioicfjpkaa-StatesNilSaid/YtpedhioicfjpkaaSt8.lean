/- portmanteaulaw10.known walked. -/
import Derived.Test.YtpedhioicfjpkaaSt7
namespace Go.Proofs.Ytpedhioicfjpkaa
open Go.RowKit Go Go.Shelf
set_option linter.unusedVariables false
attribute [local go_sem high] eql_step eql_cell

theorem okT_a : okT (2 : Nat) [3, 1] := by unfold okT; decide +kernel
theorem build_a : buildL 2 [3, 1] = [(0, 1, 2), (0, 0, 0), (0, 0, 1), (1, 2, 0)] := by decide +kernel
theorem spread_a : spreadL (2 ^ 2) [3, 1] = [0, 0, 0, 1] := by decide +kernel

theorem reads_blk {w : World} {G n s : Nat} {cs : Array Value} {t : TypeId} (h : w.heap[G]? = some (.cells cs t (0, 0))) (hl : cs.size = n * s) : Reads w w.heap.size s (some ⟨G, 0, none⟩) n cs.toList := by
  refine ⟨by simpa using hl, fun _ => ⟨_, rfl, lt_of_heap h, fun j u hu => ?_⟩⟩
  rw [Array.getElem?_toList] at hu
  have e : Addr.add ⟨G, 0, none⟩ j = ⟨G, j, none⟩ := by
    simp only [Addr.add, Nat.zero_add]
    split
    · rename_i h
      rw [h]
    · rfl
  rw [e]
  exact (cell_blk h j).trans hu

set_option maxHeartbeats 4000000 in
theorem known_any (w : World) : Calls Try.prog 12 #[] w fun e w' => e = .returned (.bool true) ∧ Below w.heap.size w w' := by
  obtain ⟨W0, hW0⟩ : ∃ W0, W0 = w.alloc (.cells #[.int .i64 3, .int .i64 1] 3 (0, 0)) := ⟨_, rfl⟩
  have r0 : Reads W0 W0.heap.size 1 (some ⟨w.heap.size, 0, none⟩) 2 ([3, 1].map (Value.int .i64)) := by
    rw [hW0]
    exact reads_blk (heap_alloc_new w _) rfl
  have b0 : Below w.heap.size w W0 := by rw [hW0]; exact (Below.refl w.heap.size w).alloc (Nat.le_refl _) _
  have HBG := hide (begin_ok 2 (some ⟨w.heap.size, 0, none⟩) 2 2 [3, 1] W0 rfl r0 (by decide) (Nat.le_refl _) (by decide) okT_a)
  have HB0 := hide b0
  have HW0 := hide hW0
  have hsp := spread_a
  clear r0 b0 hW0
  have HC := hide (fun (W : World) (g : Nat) (h : CoR W g 2 [3, 1]) => cellm_ok (st := 3) (t := (1, 2, 0)) h (by decide) (by rw [build_a]; rfl))
  have HL0 := hide (fun (W : World) (g : Nat) (h : CoR W g 2 [3, 1]) => lowest_ok (v := 0) (k := 0) h (by decide) (by rw [hsp]; decide +kernel))
  have HL1 := hide (fun (W : World) (g : Nat) (h : CoR W g 2 [3, 1]) => lowest_ok (v := 1) (k := 3) h (by decide) (by rw [hsp]; decide +kernel))
  have HL2 := hide (fun (W : World) (g : Nat) (h : CoR W g 2 [3, 1]) => lowest_bad (sym := 2) h (.inr (.inl ⟨by decide, by decide⟩)))
  have HS0 := hide (fun (W : World) (g : Nat) (h : CoR W g 2 [3, 1]) => step_law (st := 3) (v := 0) (n := 3) (k := 0) (r := 1) (N := 1) (z := 3) h okT_a rfl rfl (by decide) (by decide) (by rw [hsp]; decide +kernel) (by decide +kernel) (by decide +kernel))
  have HS1 := hide (fun (W : World) (g : Nat) (h : CoR W g 2 [3, 1]) => step_law (st := 0) (v := 0) (n := 3) (k := 1) (r := 0) (N := 0) (z := 3) h okT_a rfl rfl (by decide) (by decide) (by rw [hsp]; decide +kernel) (by decide +kernel) (by decide +kernel))
  have HS2 := hide (fun (W : World) (g : Nat) (h : CoR W g 2 [3, 1]) => step_law (st := 2) (v := 1) (n := 1) (k := 3) (r := 2) (N := 2) (z := 1) h okT_a rfl rfl (by decide) (by decide) (by rw [hsp]; decide +kernel) (by decide +kernel) (by decide +kernel))
  have hee := eqS_self (1, 2, 0)
  clear hsp
  go_enter Try.func12, Try.ntmps12
  go_wp2_with fail
  rw [← HW0.out]
  refine HBG.out.mono ?_
  rintro e W1 ⟨g, rfl, hco, hg, b1⟩
  have HCO1 := hide hco
  have HB1 := hide (HB0.out.trans (b1.mono HB0.out.size))
  clear hco b1 HBG hg
  go_wp2_with fail
  refine (HC.out _ _ HCO1.out).mono ?_
  rintro e W2 ⟨rfl, b2⟩
  have HCO2 := hide (HCO1.out.below b2)
  have HB2 := hide (HB1.out.trans (b2.mono HB1.out.size))
  obtain ⟨W3, hW3⟩ : ∃ W3, W3 = W2.alloc (.cells #[.int .i64 1, .int .i64 2, .int .i64 0] 53 (0, 0)) := ⟨_, rfl⟩
  have hg3 : W3.heap[W2.heap.size]? = some (.cells #[.int .i64 1, .int .i64 2, .int .i64 0] 53 (0, 0)) := by rw [hW3]; exact heap_alloc_new W2 _
  have HB3 : Hid (Below w.heap.size w W3) := by rw [hW3]; exact HB2.out.alloc HB2.out.size _
  have HCO3 : Hid (CoR W3 g 2 [3, 1]) := by rw [hW3]; exact HCO2.out.below ((Below.refl _ _).alloc (Nat.le_refl _) _)
  have HG3 := hide hg3
  have HW3 := hide hW3
  clear b2 hg3 hW3 HC
  go_wp2_with fail
  try rw [← HW3.out]
  go_wp2_with fail
  refine (HL0.out _ _ HCO3.out).mono ?_
  rintro e W4 ⟨rfl, rfl⟩
  go_wp2_with fail
  refine (HL1.out _ _ HCO3.out).mono ?_
  rintro e W5 ⟨rfl, rfl⟩
  go_wp2_with fail
  refine (HL2.out _ _ HCO3.out).mono ?_
  rintro e W6 ⟨rfl, rfl⟩
  go_wp2_with fail
  refine (HS0.out _ _ HCO3.out).mono ?_
  rintro e W7 ⟨rfl, b7⟩
  have HCO7 := hide (HCO3.out.below b7)
  have HG7 := hide ((b7.block _ (lt_of_heap HG3.out)).trans HG3.out)
  have HB7 := hide (HB3.out.trans (b7.mono HB3.out.size))
  clear b7
  go_wp2_with fail
  refine (HS1.out _ _ HCO7.out).mono ?_
  rintro e W8 ⟨rfl, b8⟩
  have HCO8 := hide (HCO7.out.below b8)
  have HG8 := hide ((b8.block _ (lt_of_heap HG7.out)).trans HG7.out)
  have HB8 := hide (HB7.out.trans (b8.mono HB7.out.size))
  clear b8
  go_wp2_with fail
  refine (HS2.out _ _ HCO8.out).mono ?_
  rintro e W9 ⟨rfl, b9⟩
  have hg9 := (b9.block _ (lt_of_heap HG8.out)).trans HG8.out
  have a0 := cell_blk hg9 0
  have a1 := cell_blk hg9 1
  have a2 := cell_blk hg9 2
  have HB9 := hide (HB8.out.trans (b9.mono HB8.out.size))
  clear b9 hg9
  go_wp2
  go_ret
  exact ⟨ret_bool (by simp), HB9.out⟩
end Go.Proofs.Ytpedhioicfjpkaa
