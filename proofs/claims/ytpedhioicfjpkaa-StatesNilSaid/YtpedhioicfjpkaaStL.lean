/- The methods of states.Coder at a nil pointer and at a Coder of no table. -/
import Derived.Test.YtpedhioicfjpkaaSt7
namespace Go.Proofs.Ytpedhioicfjpkaa
open Go.RowKit Go Go.Shelf
set_option linter.unusedVariables false

/-- A pointer that is nil, or points at a Coder of no table. -/
def NoC (W : World) (p : Option Addr) : Prop := p = none ∨ ∃ g, p = some ⟨g, 0, none⟩ ∧ W.heap[g]? = some (.cells #[.slice none 0 0, .slice none 0 0] 64 (0, 0))
theorem NoC.below {W W' : World} {p : Option Addr} (h : NoC W p) (hb : Below W.heap.size W W') : NoC W' p := by
  rcases h with h | ⟨g, h1, h2⟩
  · exact .inl h
  · exact .inr ⟨g, h1, (hb.block _ (lt_of_heap h2)).trans h2⟩

theorem none_yes {W : World} {p : Option Addr} (h : NoC W p) :
    Calls Try.prog 32 #[.pointer p] W fun e w' => e = .returned (.bool true) ∧ w' = W := by
  rcases h with rfl | ⟨g, rfl, hg⟩
  · go_enter Try.func32, Try.ntmps32
    go_wp2
    go_ret
    exact ⟨rfl, rfl⟩
  · have k0 := cell_blk hg 0
    clear hg
    go_enter Try.func32, Try.ntmps32
    go_wp2
    go_ret
    exact ⟨rfl, rfl⟩

theorem state_nil {W : World} {p : Option Addr} (h : NoC W p) (st : Int) :
    Calls Try.prog 30 #[.pointer p, .int .i64 st] W fun e w' => e = .returned (.int .i64 1) ∧ w' = W := by
  have HN := hide (none_yes h)
  clear h
  go_enter Try.func30, Try.ntmps30
  go_wp2_with fail
  refine HN.out.mono ?_
  rintro e w1 ⟨rfl, rfl⟩
  go_wp2
  go_ret
  exact ⟨rfl, rfl⟩

theorem log_nil {W : World} {p : Option Addr} (h : NoC W p) :
    Calls Try.prog 23 #[.pointer p] W fun e w' => e = .returned (.int .i64 0) ∧ w' = W := by
  have HN := hide (none_yes h)
  clear h
  go_enter Try.func23, Try.ntmps23
  go_wp2_with fail
  refine HN.out.mono ?_
  rintro e w1 ⟨rfl, rfl⟩
  go_wp2
  go_ret
  exact ⟨rfl, rfl⟩

theorem lowest_nil {W : World} {p : Option Addr} (h : NoC W p) (sym : Int) :
    Calls Try.prog 17 #[.pointer p, .int .i64 sym] W fun e w' => e = .returned (.tuple #[.int .i64 0, .int .i64 1]) ∧ w' = W := by
  have HN := hide (none_yes h)
  clear h
  go_enter Try.func17, Try.ntmps17
  go_wp2_with fail
  refine HN.out.mono ?_
  rintro e w1 ⟨rfl, rfl⟩
  go_wp2
  go_ret2
  exact ⟨rfl, rfl⟩

set_option maxHeartbeats 1000000 in
theorem cellm_nil {W : World} {p : Option Addr} (h : NoC W p) (st : Int) :
    Calls Try.prog 24 #[.pointer p, .int .i64 st] W fun e w' => e = .returned (.tuple #[.agg #[.int .i64 0, .int .i64 0, .int .i64 0], .int .i64 1]) ∧ Below W.heap.size W w' := by
  obtain ⟨W0, hW0⟩ : ∃ W0, W0 = W.alloc (.cells #[.int .i64 0, .int .i64 0, .int .i64 0] 53 (0, 0)) := ⟨_, rfl⟩
  have g0 : W0.heap[W.heap.size]? = some (.cells #[.int .i64 0, .int .i64 0, .int .i64 0] 53 (0, 0)) := by rw [hW0]; exact heap_alloc_new W _
  have b0 : Below W.heap.size W W0 := by rw [hW0]; exact (Below.refl W.heap.size W).alloc (Nat.le_refl _) _
  have HST := hide (state_nil (h.below b0) st)
  have u0 := cell_blk g0 0
  have u1 := cell_blk g0 1
  have u2 := cell_blk g0 2
  have p0 := frozen_blk g0 0
  have p1 := frozen_blk g0 1
  have p2 := frozen_blk g0 2
  have s1 := set_blk g0 0 (.int .i64 0)
  have s2 := set_blk s1 1 (.int .i64 0)
  have s3 := set_blk s2 2 (.int .i64 0)
  have u1' := cell_blk s1 1
  have u2' := cell_blk s2 2
  have p1' := frozen_blk s1 1
  have p2' := frozen_blk s2 2
  have z0 := cell_blk s3 0
  have z1 := cell_blk s3 1
  have z2 := cell_blk s3 2
  have HB := hide (((b0.setCell (p := ⟨W.heap.size, 0, none⟩) (Nat.le_refl _) (.int .i64 0)).setCell (p := ⟨W.heap.size, 1, none⟩) (Nat.le_refl _) (.int .i64 0)).setCell (p := ⟨W.heap.size, 2, none⟩) (Nat.le_refl _) (.int .i64 0))
  have HW0 := hide hW0
  clear h hW0 g0 b0 s1 s2 s3
  go_enter Try.func24, Try.ntmps24
  go_wp2_with fail
  try rw [← HW0.out]
  refine HST.out.mono ?_
  rintro e w1 ⟨rfl, rfl⟩
  go_wp2
  refine bodyPost_ret (v := .tuple #[.agg #[.int .i64 0, .int .i64 0, .int .i64 0], .int .i64 1]) ?_ rfl ⟨rfl, HB.out⟩
  simp only [results, Try.results24, go_sem]
  simp [z0, z1, z2, go_sem]

set_option maxHeartbeats 1000000 in
theorem pred_nil {W : World} {p : Option Addr} (h : NoC W p) (st sym : Int) :
    Calls Try.prog 15 #[.pointer p, .int .i64 st, .int .i64 sym] W fun e w' => e = .returned (.tuple #[.agg #[.int .i64 0, .int .u64 0, .int .i64 0], .int .i64 1]) ∧ Below W.heap.size W w' := by
  obtain ⟨W0, hW0⟩ : ∃ W0, W0 = W.alloc (.cells #[.int .i64 0, .int .u64 0, .int .i64 0] 33 (0, 0)) := ⟨_, rfl⟩
  have g0 : W0.heap[W.heap.size]? = some (.cells #[.int .i64 0, .int .u64 0, .int .i64 0] 33 (0, 0)) := by rw [hW0]; exact heap_alloc_new W _
  have b0 : Below W.heap.size W W0 := by rw [hW0]; exact (Below.refl W.heap.size W).alloc (Nat.le_refl _) _
  have HST := hide (state_nil (h.below b0) st)
  have u0 := cell_blk g0 0
  have u1 := cell_blk g0 1
  have u2 := cell_blk g0 2
  have p0 := frozen_blk g0 0
  have p1 := frozen_blk g0 1
  have p2 := frozen_blk g0 2
  have s1 := set_blk g0 0 (.int .i64 0)
  have s2 := set_blk s1 1 (.int .u64 0)
  have s3 := set_blk s2 2 (.int .i64 0)
  have u1' := cell_blk s1 1
  have u2' := cell_blk s2 2
  have p1' := frozen_blk s1 1
  have p2' := frozen_blk s2 2
  have z0 := cell_blk s3 0
  have z1 := cell_blk s3 1
  have z2 := cell_blk s3 2
  have HB := hide (((b0.setCell (p := ⟨W.heap.size, 0, none⟩) (Nat.le_refl _) (.int .i64 0)).setCell (p := ⟨W.heap.size, 1, none⟩) (Nat.le_refl _) (.int .u64 0)).setCell (p := ⟨W.heap.size, 2, none⟩) (Nat.le_refl _) (.int .i64 0))
  have HW0 := hide hW0
  clear h hW0 g0 b0 s1 s2 s3
  go_enter Try.func15, Try.ntmps15
  go_wp2_with fail
  try rw [← HW0.out]
  refine HST.out.mono ?_
  rintro e w1 ⟨rfl, rfl⟩
  go_wp2
  refine bodyPost_ret (v := .tuple #[.agg #[.int .i64 0, .int .u64 0, .int .i64 0], .int .i64 1]) ?_ rfl ⟨rfl, HB.out⟩
  simp only [results, Try.results15, go_sem]
  simp [z0, z1, z2, go_sem]

theorem nextm_nil {W : World} {p : Option Addr} (h : NoC W p) (st v : Int) :
    Calls Try.prog 25 #[.pointer p, .int .i64 st, .int .u64 v] W fun e w' => e = .returned (.tuple #[.int .i64 0, .int .i64 1]) ∧ Below W.heap.size W w' := by
  have HC := hide (cellm_nil h st)
  clear h
  go_enter Try.func25, Try.ntmps25
  go_wp2_with fail
  refine HC.out.mono ?_
  rintro e W1 ⟨rfl, b1⟩
  have HB2 := hide (b1.alloc b1.size (.cells #[.int .i64 0, .int .i64 0, .int .i64 0] 53 (0, 0)))
  clear b1 HC
  go_wp2
  go_ret2
  exact ⟨rfl, HB2.out⟩
end Go.Proofs.Ytpedhioicfjpkaa
