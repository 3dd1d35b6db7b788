/- portmanteauref10.Has; portmanteaulaw10.StatesUnlike walked. -/
import Derived.Test.YtemiaagaggjbiaaSt8
namespace Go.Proofs.Ytemiaagaggjbiaa
set_option maxRecDepth 8000
open Go.RowKit Go Go.Shelf
set_option linter.unusedVariables false
attribute [local go_sem high] eql_step eql_cell

theorem has_yes {w : World} {l : Int} {A : Option Addr} {m c v : Nat} {z : Int} {zs : List Int} (hm : zs.length = m) (hr : Reads w w.heap.size 1 A m (zs.map (Value.int .i64))) (hv : v < m) (hz : zs[v]? = some z) (hz0 : z ≠ 0) :
    Calls Try.prog 31 #[.agg #[.int .i64 l, .slice A m c], .int .i64 (v : Int)] w fun e w' => e = .returned (.bool true) ∧ Below w.heap.size w w' := by
  obtain ⟨b, off, rfl, hb, hc⟩ := hr.open_ (by omega) (by omega)
  obtain ⟨W0, hW0⟩ : ∃ W0, W0 = w.alloc (.cells #[.int .i64 l, .slice (some ⟨b, off, none⟩) m c] 24 (0, 0)) := ⟨_, rfl⟩
  have g1 : W0.heap[w.heap.size]? = some (.cells #[.int .i64 l, .slice (some ⟨b, off, none⟩) m c] 24 (0, 0)) := by rw [hW0]; exact heap_alloc_new w _
  have b0 : Below w.heap.size w W0 := by rw [hW0]; exact (Below.refl w.heap.size w).alloc (Nat.le_refl _) _
  have k0 := cell_blk g1 0
  have k1 := cell_blk g1 1
  have kz := (b0.cell (p := ⟨b, off + v, none⟩) hb).trans (hc v (.int .i64 z) (by simp [hz]))
  rw [hW0] at kz
  have t1 : (0 : Int) ≤ (v : Int) := by omega
  have t2 : (v : Int) < (m : Int) := by omega
  have t3 : (z != 0) = true := by simp [hz0]
  have HB := hide b0
  have HW0 := hide hW0
  clear hr hc g1 b0 hW0 hz hm hz0
  go_enter Try.func31, Try.ntmps31
  go_wp2_with fail
  try rw [← HW0.out]
  go_wp2
  go_ret
  exact ⟨ret_bool (by simp), HB.out⟩

theorem has_no {w : World} {l sym : Int} {A : Option Addr} {m c : Nat} {zs : List Int} (hm : zs.length = m) (hr : Reads w w.heap.size 1 A m (zs.map (Value.int .i64))) (hs : sym < 0 ∨ (0 ≤ sym ∧ (m : Int) ≤ sym) ∨ (∃ v : Nat, sym = (v : Int) ∧ v < m ∧ zs[v]? = some 0)) :
    Calls Try.prog 31 #[.agg #[.int .i64 l, .slice A m c], .int .i64 sym] w fun e w' => e = .returned (.bool false) ∧ Below w.heap.size w w' := by
  obtain ⟨W0, hW0⟩ : ∃ W0, W0 = w.alloc (.cells #[.int .i64 l, .slice A m c] 24 (0, 0)) := ⟨_, rfl⟩
  have g1 : W0.heap[w.heap.size]? = some (.cells #[.int .i64 l, .slice A m c] 24 (0, 0)) := by rw [hW0]; exact heap_alloc_new w _
  have b0 : Below w.heap.size w W0 := by rw [hW0]; exact (Below.refl w.heap.size w).alloc (Nat.le_refl _) _
  have k0 := cell_blk g1 0
  have k1 := cell_blk g1 1
  have HB := hide b0
  have HW0 := hide hW0
  rcases hs with hs | ⟨hs, hs'⟩ | ⟨v, rfl, hv, hz⟩
  · have t1 : ¬ 0 ≤ sym := by omega
    clear hr g1 b0 hW0 hm
    go_enter Try.func31, Try.ntmps31
    go_wp2_with fail
    try rw [← HW0.out]
    go_wp2
    go_ret
    exact ⟨ret_bool (by simp), HB.out⟩
  · have t1 : ¬ sym < (m : Int) := by omega
    clear hr g1 b0 hW0 hm
    go_enter Try.func31, Try.ntmps31
    go_wp2_with fail
    try rw [← HW0.out]
    go_wp2
    go_ret
    exact ⟨ret_bool (by simp), HB.out⟩
  · obtain ⟨b, off, rfl, hb, hc⟩ := hr.open_ (by omega) (by omega)
    have kz := (b0.cell (p := ⟨b, off + v, none⟩) hb).trans (hc v (.int .i64 0) (by simp [hz]))
    rw [hW0] at kz
    have t1 : (0 : Int) ≤ (v : Int) := by omega
    have t2 : (v : Int) < (m : Int) := by omega
    clear hr hc g1 b0 hW0 hz hm
    go_enter Try.func31, Try.ntmps31
    go_wp2_with fail
    try rw [← HW0.out]
    go_wp2
    go_ret
    exact ⟨ret_bool (by simp), HB.out⟩

theorem has_cases (sym : Int) {m : Nat} {zs : List Int} (hm : zs.length = m) : (sym < 0 ∨ (0 ≤ sym ∧ (m : Int) ≤ sym) ∨ (∃ v : Nat, sym = (v : Int) ∧ v < m ∧ zs[v]? = some 0)) ∨ (∃ (v : Nat) (z : Int), sym = (v : Int) ∧ v < m ∧ zs[v]? = some z ∧ z ≠ 0) := by
  by_cases h1 : sym < 0
  · exact .inl (.inl h1)
  · by_cases h2 : (m : Int) ≤ sym
    · exact .inl (.inr (.inl ⟨by omega, h2⟩))
    · obtain ⟨v, rfl⟩ := Int.eq_ofNat_of_zero_le (show 0 ≤ sym by omega)
      have hv : v < zs.length := by omega
      by_cases h3 : zs[v] = 0
      · exact .inl (.inr (.inr ⟨v, rfl, by omega, by rw [List.getElem?_eq_getElem hv, h3]⟩))
      · exact .inr ⟨v, zs[v], rfl, by omega, List.getElem?_eq_getElem hv, h3⟩

end Go.Proofs.Ytemiaagaggjbiaa
