/- Arguments opened: a cell, a table. -/
import Derived.Test.YtohgnohifojdbaaOpen
import Derived.Deep.Strs
namespace Go.Proofs.Ytohgnohifojdbaa
set_option maxRecDepth 8000
open Go.ChangeShapes Go.WideShapes Go.Deep Go.RowKit
set_option linter.unusedVariables false

theorem open_cell {H : Type} {enc : TypeId × Value → H} {W : World} {r : Reach} {b : Nat} {v : Value} {d : DataW H} {p : List MemPlace} (hv : Value.okWide Try.prog W r b 98 v)
    (h : DataW.Trod enc Try.prog W 0 (fun _ => true) true 98 v d p) : ∃ s k z : Int, v = .agg #[.int .i64 s, .int .i64 k, .int .i64 z] ∧ (Lit.int .i64 s).wf = true ∧ (Lit.int .i64 k).wf = true ∧ (Lit.int .i64 z).wf = true := by
  obtain ⟨cs, rfl, hs⟩ := okWide_struct Try.underlying98 hv
  rw [show Program.cellsOf Try.prog 98 = 3 by kernel_rfl] at hs
  obtain ⟨fuel, hf⟩ := h
  obtain ⟨y0, y1, y2, n, _, _, t0, t1, t2⟩ := trod_struct3 Try.underlying98 hf
  have hc : Program.cellsOf Try.prog 3 = 1 := by kernel_rfl
  obtain ⟨l⟩ := cs
  match l, hs with
  | [a, b, c], _ =>
    simp only [hc] at t0 t1 t2
    obtain ⟨x0, e0, _, w0⟩ := DataW.trod_int Try.underlying3 t0
    obtain ⟨x1, e1, _, w1⟩ := DataW.trod_int Try.underlying3 t1
    obtain ⟨x2, e2, _, w2⟩ := DataW.trod_int Try.underlying3 t2
    simp [Value.cells] at e0 e1 e2
    subst e0 e1 e2
    exact ⟨x0, x1, x2, rfl, w0, w1, w2⟩

theorem open_table {H : Type} {enc : TypeId × Value → H} {W : World} {r : Reach} {b : Nat} {v : Value} {d : DataW H} {p : List MemPlace} (hv : Value.okWide Try.prog W r b 28 v)
    (h : DataW.Trod enc Try.prog W 0 (fun _ => true) true 28 v d p) : ∃ (l : Int) (A : Option Addr) (n c : Nat) (zs : List Int), v = .agg #[.int .i64 l, .slice A n c] ∧ (Lit.int .i64 l).wf = true ∧
      zs.length = n ∧ Reads W W.heap.size 1 A n (zs.map (Value.int .i64)) ∧ (∀ z ∈ zs, (Lit.int .i64 z).wf = true) ∧ c ≤ maxLen ∧ n ≤ c := by
  obtain ⟨cs, rfl, hs⟩ := okWide_struct Try.underlying28 hv
  rw [show Program.cellsOf Try.prog 28 = 2 by kernel_rfl] at hs
  obtain ⟨fuel, hf⟩ := h
  obtain ⟨y0, y1, n, _, _, t0, t1⟩ := trod_struct2 Try.underlying28 hf
  have hc : Program.cellsOf Try.prog 3 = 1 := by kernel_rfl
  have hc' : Program.cellsOf Try.prog 24 = 1 := by kernel_rfl
  obtain ⟨l⟩ := cs
  match l, hs with
  | [a, b], _ =>
    simp only [hc, hc'] at t0 t1
    obtain ⟨x0, e0, _, w0⟩ := DataW.trod_int Try.underlying3 t0
    simp [Value.cells] at e0
    subst e0
    have t1' := t1
    have hb : ∃ A n c, b = .slice A n c := by
      rcases open_ints Try.underlying24 Try.underlying3 hc t1 with ⟨hcs, _⟩ | ⟨x, l, c', zs, hcs, _⟩
      · simp [Value.cells] at hcs
        exact ⟨_, _, _, hcs⟩
      · simp [Value.cells] at hcs
        exact ⟨_, _, _, hcs⟩
    obtain ⟨A, m, c, rfl⟩ := hb
    obtain ⟨zs, h1, h2, h3, h4, h5⟩ := open_nums (A := A) (n := m) (c := c) (d := y1.1) (p := y1.2) Try.underlying24 Try.underlying3 hc ⟨_, t1'⟩
    exact ⟨x0, A, m, c, zs, rfl, w0, h1, h2, h3, h5, h4⟩
end Go.Proofs.Ytohgnohifojdbaa
