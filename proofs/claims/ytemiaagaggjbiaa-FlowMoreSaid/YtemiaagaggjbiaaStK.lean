/- cells.Build and portmanteauref09.Of side by side, for any table. -/
import Derived.Test.YtemiaagaggjbiaaCeJ
import Derived.Test.YtemiaagaggjbiaaStA
namespace Go.Proofs.Ytemiaagaggjbiaa
set_option maxRecDepth 8000
open Go.RowKit Go
set_option linter.unusedVariables false

theorem buildL_length (l : Nat) (zs : List Int) : (buildL l zs).length = 2 ^ l := by simp [buildL]

/-- What Build and the reference answer for a table: the same cells, the same error. -/
theorem tab_any (l : Int) (zs : List Int) (hok : ∀ z ∈ zs, (Lit.int .i64 z).wf = true) : ∃ (cs : List CellT) (E : Int), cs.length ≤ 512 ∧ ((okT l zs ∧ E = 0 ∧ ∃ L : Nat, l = (L : Int) ∧ L ≤ 9 ∧ cs = buildL L zs) ∨ (¬ okT l zs ∧ E = 13 ∧ cs = [])) ∧
    ∀ (A : Option Addr) (m c : Nat) (w : World), zs.length = m → Reads w w.heap.size 1 A m (zs.map (Value.int .i64)) → m ≤ c → c ≤ maxLen →
      (Calls Try.prog 24 #[.agg #[.int .i64 l, .slice A m c]] w fun e w' => ∃ v, e = .returned (.tuple #[v, .int .i64 E]) ∧ w'.ownsRow w.heap.size 62 3 v cs.length (cellsV cs) ∧ Below w.heap.size w w') ∧
      (Calls Try.prog 29 #[.agg #[.int .i64 l, .slice A m c]] w fun e w' => ∃ v, e = .returned (.tuple #[v, .int .i64 E]) ∧ w'.ownsRow w.heap.size 62 3 v cs.length (cellsV cs) ∧ Below w.heap.size w w') := by
  by_cases hT : okT l zs
  · obtain ⟨L, rfl⟩ := Int.eq_ofNat_of_zero_le hT.1.1
    have hL : L ≤ 9 := by have := hT.1; omega
    have hS2 : 2 ^ L ≤ 2 ^ 9 := Nat.pow_le_pow_right (by omega) hL
    have h29 : (2 : Nat) ^ 9 = 512 := by decide
    refine ⟨buildL L zs, 0, by rw [buildL_length]; omega, .inl ⟨hT, rfl, L, rfl, hL, rfl⟩, fun A m c w hm hr hc hc' => ?_⟩
    rw [buildL_length]
    exact ⟨build_ok L A m c zs w hm hr hok hc hc' hT, ref9_ok L A m c zs w hm hr hok hc hc' hT⟩
  · refine ⟨[], 13, by simp, .inr ⟨hT, rfl, rfl⟩, fun A m c w hm hr hc hc' => ⟨?_, ?_⟩⟩
    · exact (build_bad l A m c zs w hm hr hok hc hc' hT).mono fun e w' ⟨he, hb⟩ => ⟨_, he, World.ownsRow_nil _ _ _ _, hb⟩
    · exact (ref9_bad l A m c zs w hm hr hok hc hc' hT).mono fun e w' ⟨he, hb⟩ => ⟨_, he, World.ownsRow_nil _ _ _ _, hb⟩
end Go.Proofs.Ytemiaagaggjbiaa
