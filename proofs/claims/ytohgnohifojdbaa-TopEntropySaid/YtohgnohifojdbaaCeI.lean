/- portmanteauref08.Step and portmanteauref08.Of walked. -/
import Derived.Test.YtohgnohifojdbaaCeH
import Derived.Test.YtohgnohifojdbaaCeD
import Derived.Test.YtohgnohifojdbaaCe9
namespace Go.Proofs.Ytohgnohifojdbaa
set_option maxRecDepth 8000
open Go.RowKit Go
set_option linter.unusedVariables false

theorem fill_neg {S i : Nat} (h : i < S) : (List.replicate i (-1 : Int) ++ List.replicate (S - i) 0).set i (-1) = List.replicate (i + 1) (-1) ++ List.replicate (S - (i + 1)) 0 := by
  rw [List.set_append_right _ _ (by simp), show S - i = S - (i + 1) + 1 by omega, List.replicate_succ, List.replicate_succ']
  simp
theorem rareTo_mono (zs : List Int) : ∀ (d j : Nat), (rareTo zs j).length ≤ (rareTo zs (j + d)).length
  | 0, j => Nat.le_refl _
  | d + 1, j => by
    refine Nat.le_trans (rareTo_mono zs d j) ?_
    rw [← Nat.add_assoc, rareTo_succ, List.length_append]
    omega

end Go.Proofs.Ytohgnohifojdbaa
