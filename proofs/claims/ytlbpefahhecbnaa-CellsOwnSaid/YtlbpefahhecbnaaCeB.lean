/- portmanteaulaw09.known walked. -/
import Derived.Test.YtlbpefahhecbnaaCeA
namespace Go.Proofs.Ytlbpefahhecbnaa
open Go.RowKit Go Go.Shelf
set_option linter.unusedVariables false

theorem okT_a : okT (2 : Nat) [3, 1] := by unfold okT; decide +kernel
theorem okT_b : okT (0 : Nat) [0, 1] := by unfold okT; decide +kernel
theorem build_a : buildL 2 [3, 1] = [(0, 1, 2), (0, 0, 0), (0, 0, 1), (1, 2, 0)] := by decide +kernel
theorem build_b : buildL 0 [0, 1] = [(1, 0, 0)] := by decide +kernel

theorem reads_blk {w : World} {G n s : Nat} {cs : Array Value} {t : TypeId} (h : w.heap[G]? = some (.cells cs t (0, 0))) (hl : cs.size = n * s) : Reads w w.heap.size s (some ⟨G, 0, none⟩) n cs.toList := by
  refine ⟨by simpa using hl, fun _ => ⟨_, rfl, lt_of_heap h, fun j u hu => ?_⟩⟩
  rw [Array.getElem?_toList] at hu
  have e : Addr.add ⟨G, 0, none⟩ j = ⟨G, j, none⟩ := by
    simp only [Addr.add, Nat.zero_add]
    split
    · rename_i h
      rw [h]
    · rfl
  rw [e]
  exact (cell_blk h j).trans hu

set_option maxHeartbeats 4000000 in
theorem known_any (w : World) : Calls Try.prog 11 #[] w fun e w' => e = .returned (.bool true) ∧ Below w.heap.size w w' := by
  obtain ⟨W0, hW0⟩ : ∃ W0, W0 = w.alloc (.cells #[.int .i64 3, .int .i64 1] 3 (0, 0)) := ⟨_, rfl⟩
  have r0 : Reads W0 W0.heap.size 1 (some ⟨w.heap.size, 0, none⟩) 2 ([3, 1].map (Value.int .i64)) := by
    rw [hW0]
    exact reads_blk (heap_alloc_new w _) rfl
  have b0 : Below w.heap.size w W0 := by rw [hW0]; exact (Below.refl w.heap.size w).alloc (Nat.le_refl _) _
  have H0 := hide (build_ok 2 (some ⟨w.heap.size, 0, none⟩) 2 2 [3, 1] W0 rfl r0 (by decide) (Nat.le_refl _) (by decide) okT_a)
  have HB0 := hide b0
  have HW0 := hide hW0
  clear r0 b0 hW0
  go_enter Try.func11, Try.ntmps11
  go_wp2_with fail
  rw [← HW0.out]
  refine H0.out.mono ?_
  rintro e W1 ⟨v1, rfl, ho1, b1⟩
  obtain ⟨A1, c1, rfl⟩ := own_form ho1
  rw [build_a] at ho1
  have HO1 := hide ho1
  have HB1 := hide (HB0.out.trans (b1.mono HB0.out.size))
  clear ho1 b1
  obtain ⟨W2, hW2⟩ : ∃ W2, W2 = W1.alloc (.cells #[.int .i64 0, .int .i64 1] 3 (0, 0)) := ⟨_, rfl⟩
  have r2 : Reads W2 W2.heap.size 1 (some ⟨W1.heap.size, 0, none⟩) 2 ([0, 1].map (Value.int .i64)) := by
    rw [hW2]
    exact reads_blk (heap_alloc_new W1 _) rfl
  have b2 : Below w.heap.size w W2 := by rw [hW2]; exact HB1.out.alloc HB1.out.size _
  have ho2 := HO1.out.alloc (.cells #[.int .i64 0, .int .i64 1] 3 (0, 0))
  rw [← hW2] at ho2
  have H2 := hide (build_ok 0 (some ⟨W1.heap.size, 0, none⟩) 2 2 [0, 1] W2 rfl r2 (by decide) (Nat.le_refl _) (by decide) okT_b)
  have HO2 := hide ho2
  have HB2 := hide b2
  have HW2 := hide hW2
  clear r2 b2 hW2 ho2
  go_wp2_with fail
  rw [← HW2.out]
  refine H2.out.mono ?_
  rintro e W3 ⟨v3, rfl, ho3, b3⟩
  obtain ⟨A3, c3, rfl⟩ := own_form ho3
  rw [build_b] at ho3
  have HO3 := hide ho3
  have HO3' := hide (own_below HO2.out b3)
  have HB3 := hide (HB2.out.trans (b3.mono HB2.out.size))
  clear ho3 b3
  go_wp2_with fail
  obtain ⟨W4, hW4⟩ : ∃ W4, W4 = W3.alloc (.cells #[.int .i64 0, .int .i64 1, .int .i64 2, .int .i64 0, .int .i64 0, .int .i64 0, .int .i64 0, .int .i64 0, .int .i64 1, .int .i64 1, .int .i64 2, .int .i64 0] 36) := ⟨_, rfl⟩
  have r4 : Reads W4 W4.heap.size 3 (some ⟨W3.heap.size, 0, none⟩) 4 (cellsV [(0, 1, 2), (0, 0, 0), (0, 0, 1), (1, 2, 0)]) := by
    rw [hW4]
    exact reads_blk (heap_alloc_new W3 _) rfl
  have q4 := Reads.of_own (HO3'.out.alloc (.cells #[.int .i64 0, .int .i64 1, .int .i64 2, .int .i64 0, .int .i64 0, .int .i64 0, .int .i64 0, .int .i64 0, .int .i64 1, .int .i64 1, .int .i64 2, .int .i64 0] 36))
  have o4 := HO3.out.alloc (.cells #[.int .i64 0, .int .i64 1, .int .i64 2, .int .i64 0, .int .i64 0, .int .i64 0, .int .i64 0, .int .i64 0, .int .i64 1, .int .i64 1, .int .i64 2, .int .i64 0] 36)
  have b4 : Below w.heap.size w W4 := by rw [hW4]; exact HB3.out.alloc HB3.out.size _
  rw [← hW4] at q4 o4 ⊢
  refine (csame_any A1 (some ⟨W3.heap.size, 0, none⟩) 4 c1 4 4 _ _ W4 q4 r4 rfl rfl (by decide)).mono ?_
  rintro e W5 ⟨rfl, j5, rfl⟩
  rw [show decide ([((0 : Int), (1 : Int), (2 : Int)), (0, 0, 0), (0, 0, 1), (1, 2, 0)] = [(0, 1, 2), (0, 0, 0), (0, 0, 1), (1, 2, 0)]) = true by decide]
  have HB4 := hide b4
  have HO4 := hide o4
  clear hW4 r4 q4 b4 o4 HO3 HO3'
  obtain ⟨W5, hW5⟩ : ∃ W5, W5 = W4.drewN j5 := ⟨_, rfl⟩
  have o5 : W5.ownsRow W2.heap.size 36 3 (.slice A3 (2 ^ 0) c3) (2 ^ 0) (cellsV [(1, 0, 0)]) := by rw [hW5]; exact own_below HO4.out (below_drewN (Below.refl _ _) _)
  have b5 : Below w.heap.size w W5 := by rw [hW5]; exact HB4.out.trans (below_drewN (Below.refl _ _) _)
  rw [← hW5]
  have HO5 := hide o5
  have HB5 := hide b5
  clear o5 b5 hW5 HO4 HB4
  go_wp2_with fail
  obtain ⟨W6, hW6⟩ : ∃ W6, W6 = W5.alloc (.cells #[.int .i64 1, .int .i64 0, .int .i64 0] 36) := ⟨_, rfl⟩
  have r6 : Reads W6 W6.heap.size 3 (some ⟨W5.heap.size, 0, none⟩) 1 (cellsV [(1, 0, 0)]) := by
    rw [hW6]
    exact reads_blk (heap_alloc_new W5 _) rfl
  have q6 := Reads.of_own (HO5.out.alloc (.cells #[.int .i64 1, .int .i64 0, .int .i64 0] 36))
  have b6 : Below w.heap.size w W6 := by rw [hW6]; exact HB5.out.alloc HB5.out.size _
  rw [← hW6] at q6 ⊢
  refine (csame_any A3 (some ⟨W5.heap.size, 0, none⟩) 1 c3 1 1 _ _ W6 q6 r6 rfl rfl (by decide)).mono ?_
  rintro e W7 ⟨rfl, j7, rfl⟩
  rw [show decide ([((1 : Int), (0 : Int), (0 : Int))] = [(1, 0, 0)]) = true by decide]
  have HB6 := hide b6
  clear b6 hW6 r6 q6
  go_wp2
  go_ret
  exact ⟨rfl, HB6.out.trans (below_drewN (Below.refl _ _) _)⟩
end Go.Proofs.Ytlbpefahhecbnaa
