/- portmanteaulaw10.known walked. -/
import Derived.Test.YtohgnohifojdbaaSt7
namespace Go.Proofs.Ytohgnohifojdbaa
set_option maxRecDepth 8000
open Go.RowKit Go Go.Shelf
set_option linter.unusedVariables false
attribute [local go_sem high] eql_step eql_cell

theorem okT_a : okT (2 : Nat) [3, 1] := by unfold okT; decide +kernel
theorem build_a : buildL 2 [3, 1] = [(0, 1, 2), (0, 0, 0), (0, 0, 1), (1, 2, 0)] := by decide +kernel
theorem spread_a : spreadL (2 ^ 2) [3, 1] = [0, 0, 0, 1] := by decide +kernel

theorem reads_blk {w : World} {G n s : Nat} {cs : Array Value} {t : TypeId} (h : w.heap[G]? = some (.cells cs t (0, 0))) (hl : cs.size = n * s) : Reads w w.heap.size s (some ⟨G, 0, none⟩) n cs.toList := by
  refine ⟨by simpa using hl, fun _ => ⟨_, rfl, lt_of_heap h, fun j u hu => ?_⟩⟩
  rw [Array.getElem?_toList] at hu
  have e : Addr.add ⟨G, 0, none⟩ j = ⟨G, j, none⟩ := by
    simp only [Addr.add, Nat.zero_add]
    split
    · rename_i h
      rw [h]
    · rfl
  rw [e]
  exact (cell_blk h j).trans hu

end Go.Proofs.Ytohgnohifojdbaa
