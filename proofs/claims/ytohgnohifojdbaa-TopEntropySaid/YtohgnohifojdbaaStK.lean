/- cells.Build and portmanteauref09.Of side by side, for any table. -/
import Derived.Test.YtohgnohifojdbaaCeJ
import Derived.Test.YtohgnohifojdbaaStA
namespace Go.Proofs.Ytohgnohifojdbaa
set_option maxRecDepth 8000
open Go.RowKit Go
set_option linter.unusedVariables false

theorem buildL_length (l : Nat) (zs : List Int) : (buildL l zs).length = 2 ^ l := by simp [buildL]

end Go.Proofs.Ytohgnohifojdbaa
