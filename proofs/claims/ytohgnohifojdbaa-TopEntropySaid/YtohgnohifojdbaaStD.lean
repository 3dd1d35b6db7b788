/- portmanteauref10.Has; portmanteaulaw10.StatesUnlike walked. -/
import Derived.Test.YtohgnohifojdbaaSt8
namespace Go.Proofs.Ytohgnohifojdbaa
set_option maxRecDepth 8000
open Go.RowKit Go Go.Shelf
set_option linter.unusedVariables false
attribute [local go_sem high] eql_step eql_cell

theorem has_cases (sym : Int) {m : Nat} {zs : List Int} (hm : zs.length = m) : (sym < 0 ∨ (0 ≤ sym ∧ (m : Int) ≤ sym) ∨ (∃ v : Nat, sym = (v : Int) ∧ v < m ∧ zs[v]? = some 0)) ∨ (∃ (v : Nat) (z : Int), sym = (v : Int) ∧ v < m ∧ zs[v]? = some z ∧ z ≠ 0) := by
  by_cases h1 : sym < 0
  · exact .inl (.inl h1)
  · by_cases h2 : (m : Int) ≤ sym
    · exact .inl (.inr (.inl ⟨by omega, h2⟩))
    · obtain ⟨v, rfl⟩ := Int.eq_ofNat_of_zero_le (show 0 ≤ sym by omega)
      have hv : v < zs.length := by omega
      by_cases h3 : zs[v] = 0
      · exact .inl (.inr (.inr ⟨v, rfl, by omega, by rw [List.getElem?_eq_getElem hv, h3]⟩))
      · exact .inr ⟨v, zs[v], rfl, by omega, List.getElem?_eq_getElem hv, h3⟩

end Go.Proofs.Ytohgnohifojdbaa
