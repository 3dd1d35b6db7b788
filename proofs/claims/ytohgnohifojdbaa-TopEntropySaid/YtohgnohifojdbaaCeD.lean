/- portmanteauref07.States, Size, May walked. -/
import Derived.Test.YtohgnohifojdbaaCe1
import Derived.Test.YtohgnohifojdbaaCe3
namespace Go.Proofs.Ytohgnohifojdbaa
set_option maxRecDepth 8000
open Go.RowKit Go
set_option linter.unusedVariables false

end Go.Proofs.Ytohgnohifojdbaa
