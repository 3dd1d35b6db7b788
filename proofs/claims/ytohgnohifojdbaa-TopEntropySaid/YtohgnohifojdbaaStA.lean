/- spread.Spread and cells.Build of a table that may not be. -/
import Derived.Test.YtohgnohifojdbaaRefM
import Derived.Test.YtohgnohifojdbaaCe9
import Derived.Laws.StructEq
namespace Go.Proofs.Ytohgnohifojdbaa
set_option maxRecDepth 8000
open Go.RowKit Go Go.Shelf
set_option linter.unusedVariables false
attribute [local go_sem] Oper.semAt_some

set_option maxRecDepth 100000 in
set_option maxHeartbeats 4000000 in
theorem spread_bad (n : Nat) (hn : 6 ≤ n) (l : Int) (A : Option Addr) (m c : Nat) (zs : List Int) (w : World) (hm : zs.length = m) (hr : Reads w w.heap.size 1 A m (zs.map (Value.int .i64))) (hok : ∀ z ∈ zs, (Lit.int .i64 z).wf = true) (hc : m ≤ c) (hc' : c ≤ maxLen) (hT : ¬ okT l zs) :
    CallsIn Fence.wide n Try.prog 61 #[.agg #[.int .i64 l, .slice A m c]] w fun e w' =>
      e = .returned (.tuple #[.slice none 0 0, .int .i64 13]) ∧ Below w.heap.size w w' := by
  have HCK := hide (fun W (b : Below w.heap.size w W) => (check_any l A m c zs W hm ((hr.below b).more b.size) hok hc hc').mono (R' := fun e w' => e = .returned (.int .i64 13) ∧ Below W.heap.size W w') (by
    rintro e w' ⟨h | h, hb⟩
    · exact absurd h.1 hT
    · exact ⟨h.2, hb⟩))
  have h1n : 1 ≤ n := by omega
  have B0 := hide ((Below.refl w.heap.size w).alloc (Nat.le_refl _) (.cells #[.int .i64 l, .slice A m c] 28 (0, 0)))
  clear hr hT hok hm
  refine callsIn_of_wp_marks Try.func61 rfl trivial ?_ rfl
  simp only [Try.ntmps61, List.size_toArray, List.length_cons, List.length_nil, Nat.reduceAdd, Nat.reduceSub, Array.replicate_succ, Array.replicate_zero, List.push_toArray, List.append_toArray, List.nil_append, List.cons_append]
  gi_wp2_with (refine ⟨trivial, ?_⟩; gi_at_call 45; refine (callsIn_wide.2 (HCK.out _ B0.out)).mono ?_; rintro e w1 ⟨rfl, b1⟩; have B1 := hide (B0.out.trans (b1.mono B0.out.size)); clear b1)
  exact ⟨_, results_tmp2 rfl _ _ _, rfl, B1.out⟩

set_option maxHeartbeats 2000000 in
theorem build_bad (l : Int) (A : Option Addr) (m c : Nat) (zs : List Int) (w : World) (hm : zs.length = m) (hr : Reads w w.heap.size 1 A m (zs.map (Value.int .i64))) (hok : ∀ z ∈ zs, (Lit.int .i64 z).wf = true) (hc : m ≤ c) (hc' : c ≤ maxLen) (hT : ¬ okT l zs) :
    Calls Try.prog 38 #[.agg #[.int .i64 l, .slice A m c]] w fun e w' => e = .returned (.tuple #[.slice none 0 0, .int .i64 13]) ∧ Below w.heap.size w w' := by
  have hb0 := (Below.refl w.heap.size w).alloc (Nat.le_refl _) (.cells #[.int .i64 l, .slice A m c] 28 (0, 0))
  obtain ⟨W0, hW0⟩ : ∃ W0, W0 = w.alloc (.cells #[.int .i64 l, .slice A m c] 28 (0, 0)) := ⟨_, rfl⟩
  have g1 : W0.heap[w.heap.size]? = some (.cells #[.int .i64 l, .slice A m c] 28 (0, 0)) := by rw [hW0]; exact heap_alloc_new w _
  rw [← hW0] at hb0
  have HSP := hide (callsIn_wide.1 (spread_bad 6 (Nat.le_refl _) l A m c zs W0 hm ((hr.below hb0).more hb0.size) hok hc hc' hT))
  have HW0 := hide hW0
  have HB0 := hide hb0
  clear hr hT hok hm hb0 hW0 g1
  go_enter Try.func38, Try.ntmps38
  go_wp2_with fail
  rw [← HW0.out]
  refine HSP.out.mono ?_
  rintro e W1 ⟨rfl, b1⟩
  have HB1 := hide (HB0.out.trans (b1.mono HB0.out.size))
  clear b1
  go_wp2
  go_ret2
  exact ⟨rfl, HB1.out.alloc HB1.out.size _⟩

/-! ### portmanteauref09.Same -/
theorem cell_cells {w : World} {B n : Nat} {A : Option Addr} {xs : List CellT} (h : Reads w B 3 A n (cellsV xs)) (hn : n = xs.length) {k : Nat} (hk : k < n) :
    ∃ b off x y z, A = some ⟨b, off, none⟩ ∧ b < B ∧ w.cell? ⟨b, off + k * 3, none⟩ = some (.int .i64 x) ∧ w.cell? ⟨b, off + k * 3 + 1, none⟩ = some (.int .i64 y) ∧ w.cell? ⟨b, off + k * 3 + 2, none⟩ = some (.int .i64 z) ∧ xs[k]? = some (x, y, z) := by
  obtain ⟨b, off, rfl, hb, hc⟩ := h.open_ (by omega) (by omega)
  have hkl : k < xs.length := by omega
  have hat : ∀ (xs : List CellT) (k : Nat) (h : k < xs.length), (cellsV xs)[k * 3]? = some (.int .i64 xs[k].1) ∧ (cellsV xs)[k * 3 + 1]? = some (.int .i64 xs[k].2.1) ∧ (cellsV xs)[k * 3 + 2]? = some (.int .i64 xs[k].2.2) := by
    intro xs
    induction xs with
    | nil => intro k h; simp at h
    | cons p xs ih =>
      intro k h
      cases k with
      | zero => exact ⟨rfl, rfl, rfl⟩
      | succ k =>
        have := ih k (by simpa using h)
        have e : (k + 1) * 3 = k * 3 + 1 + 1 + 1 := by omega
        rw [e]
        exact this
  obtain ⟨h1, h2, h3⟩ := hat xs k hkl
  exact ⟨b, off, xs[k].1, xs[k].2.1, xs[k].2.2, rfl, hb, hc _ _ h1, by rw [Nat.add_assoc]; exact hc _ _ h2, by rw [Nat.add_assoc]; exact hc _ _ h3, List.getElem?_eq_getElem hkl⟩
end Go.Proofs.Ytohgnohifojdbaa
