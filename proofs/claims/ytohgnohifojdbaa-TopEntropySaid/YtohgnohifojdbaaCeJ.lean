/- portmanteauref09.Of walked. -/
import Derived.Test.YtohgnohifojdbaaCeI
import Derived.Lib.BitFns
namespace Go.Proofs.Ytohgnohifojdbaa
set_option maxRecDepth 8000
open Go.RowKit Go
set_option linter.unusedVariables false

/-- Where halving ends. -/
theorem bitLen_end {x d : Nat} (hx : x < 2 ^ 64) (h0 : 1 ≤ x / 2 ^ d) (h1 : x / 2 ^ d ≤ 1) : Lib.bitLen x = d + 1 := by
  have h2 : 2 ^ d ≤ x := by
    rcases Nat.lt_or_ge x (2 ^ d) with h | h
    · rw [Nat.div_eq_of_lt h] at h0; omega
    · exact h
  rw [Lib.bitLen_shift d x h2 hx, show x / 2 ^ d = 1 by omega]
  rfl

end Go.Proofs.Ytohgnohifojdbaa
