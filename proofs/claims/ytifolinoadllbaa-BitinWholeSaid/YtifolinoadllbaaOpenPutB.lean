/- An argument opened: a slice of calls of Put. -/
import Derived.Test.YtifolinoadllbaaOpen
import Derived.Test.YtifolinoadllbaaBaA
namespace Go.Proofs.Ytifolinoadllbaa
open Go.ChangeShapes Go.WideShapes Go.Deep Go.RowKit Go.ChangeAt
set_option linter.unusedVariables false

theorem open_puts {H : Type} {enc : TypeId × Value → H} {W : World} {A : Option Addr} {n c : Nat} {d : DataW H} {p : List MemPlace}
    (h : DataW.Trod enc Try.prog W 0 (fun _ => true) true 60 (.slice A n c) d p) : ∃ xs : List (Int × Int), n = xs.length ∧ Reads W W.heap.size 2 A n (putCells xs) ∧ OkPuts xs ∧ n ≤ c ∧ c ≤ maxLen := by
  obtain ⟨fuel, hf⟩ := h
  rcases open_slice_fields Try.underlying60 Try.underlying67 (by kernel_rfl) (by kernel_rfl) hf with ⟨hcs, _⟩ | ⟨a, len, cap, m, D, Pl, hcs, _, hl, hm, hmm, _, hi⟩
  · simp [Value.cells] at hcs
    obtain ⟨rfl, rfl, rfl⟩ := hcs
    exact ⟨[], rfl, Reads.none_, by simp [OkPuts], Nat.le_refl _, by unfold maxLen; omega⟩
  · simp [Value.cells] at hcs
    obtain ⟨rfl, rfl, rfl⟩ := hcs
    have hmc : m = c := by simpa using hmm
    have hx : ∀ i, i < n → ∃ q : Int × Int, (W.cell? (a.add (i * 2)) = some (.int .u64 q.1) ∧ W.cell? (a.add (i * 2 + 1)) = some (.int .i64 q.2)) ∧ (Lit.int .u64 q.1).wf = true ∧ (Lit.int .i64 q.2).wf = true := by
      intro i hin
      obtain ⟨ys, f, _, _, _, hfs⟩ := hi i (by omega)
      obtain ⟨v0, y0, c0, _, t0⟩ := hfs 0 _ rfl
      obtain ⟨v1, y1, c1, _, t1⟩ := hfs 1 _ rfl
      obtain ⟨x0, e0, _, w0⟩ := DataW.trod_int Try.underlying32 t0
      obtain ⟨x1, e1, _, w1⟩ := DataW.trod_int Try.underlying3 t1
      simp only [List.cons.injEq, and_true] at e0 e1
      subst e0 e1
      exact ⟨(x0, x1), ⟨c0, c1⟩, w0, w1⟩
    obtain ⟨xs, hxl, hxs⟩ := exists_list n hx
    refine ⟨xs, hxl.symm, ⟨by rw [putCells_length, hxl], fun hn => ⟨a, rfl, ?_, fun j u hu => ?_⟩⟩, ?_, hl, hm⟩
    · obtain ⟨q, ⟨h0, _⟩, _⟩ := hx 0 hn
      have := World.block_lt_of_cell? _ _ h0
      rwa [block_of_add] at this
    · have hjl : j < xs.length * 2 := by
        rcases Nat.lt_or_ge j (xs.length * 2) with h | h
        · exact h
        · rw [List.getElem?_eq_none (by rw [putCells_length]; exact h)] at hu; cases hu
      have hk : j / 2 < xs.length := by omega
      obtain ⟨g0, g1⟩ := putCells_at xs (j / 2) hk
      obtain ⟨⟨q0, q1⟩, _⟩ := hxs (j / 2) _ (List.getElem?_eq_getElem hk)
      rcases Nat.mod_two_eq_zero_or_one j with hj | hj
      · have e : j / 2 * 2 = j := by omega
        rw [e] at g0 q0
        rw [q0, ← g0, hu]
      · have e : j / 2 * 2 + 1 = j := by omega
        rw [e] at g1 q1
        rw [q1, ← g1, hu]
    · intro q hq
      obtain ⟨i, hi', rfl⟩ := List.getElem_of_mem hq
      obtain ⟨_, w0, w1⟩ := hxs i _ (List.getElem?_eq_getElem hi')
      have b0 := bounds_u64 w0
      have b1 := bounds_i64 w1
      omega
end Go.Proofs.Ytifolinoadllbaa
