/-
  No cell of these rows narrows 'for every input' (looked for: loops, veiled, ifaces, maps, wideKeys, modest, calm, conditions, laid).
  DERIVED. THE GIVEN ROWS OF THIS SEAT. 8 by the template 'for every input the law returns true; each argument reads behind the call as it read before'; 0 by the template 'total and deterministic' (their statements: YtpedhioicfjpkaaTotals.lean).
  GIVEN WITH THE SEED: the statements are not yours to turn. If you find one false, say at which input.
  Laid BY PROGRAM, IN A SANDBOX (cutbox-rows.mjs): the forced cells as the released guide's own fill.sh prints them over the translation 778f3c41c4ad28c5… (all of the seat's roots in one cut). By AI agents, Wed Nov 11 2026. No macro, syntax, notation, axiom, sorry.
-/
import Derived.Test.YtpedhioicfjpkaaChecked
import GoSem.Claim
import GoSem.ClaimJoined
import GoSem.ClaimMapViews
import Derived.JoinedTies
import Derived.KernelRfl
namespace Go.Proofs.Ytpedhioicfjpkaa
/- THE CELL 'sum', in the pinned program and in every row, IS THE sha256 OF THE DUMP (.gsa) THAT YtpedhioicfjpkaaProg.lean LOADS. Nothing in Lean hashes anything: it is a label: what it is worth is what the hold of that sum in a sandbox is worth. -/
noncomputable def Try.pinned : Pinned := { name := "ytpedhioicfjpkaa", sum := "778f3c41c4ad28c5437b4df7d52a2961702efd1631cd1e6f078d94cc8100422d", checked := Try.checked }
namespace Rows
def none {H : Type} : Left H := { results := [], args := [] }

/-- 'portmanteaulaw10.StatesAhead': WHATEVER THE INPUT: true; the input reads as it did. -/
def statesAheadSpec : ChangeSpec := { name := "statesAhead", fn := fun _ => fun
  | [d1, d2, d3] => { results := [.lit (.bool true)], args := [d1, d2, d3] }
  | _ => none }
def statesAheadRow : OpenClaim := { program := "ytpedhioicfjpkaa", sum := "778f3c41c4ad28c5437b4df7d52a2961702efd1631cd1e6f078d94cc8100422d", func := "portmanteau/portmanteaulaw10.StatesAhead", spec := "statesAhead", unfollowed := true, recurses := true, apart := false }
def StatesAheadSaid : Prop := statesAheadRow.holds Try.pinned (OpenSpec.ofChange statesAheadSpec)

/-- ITS FALSE NEIGHBOUR: 'it returns false'. Refute it at one input. -/
def statesAheadWrong : ChangeSpec := { name := "statesAhead", fn := fun _ => fun
  | [d1, d2, d3] => { results := [.lit (.bool false)], args := [d1, d2, d3] }
  | _ => none }
def StatesAheadWrongFalsely : Prop := statesAheadRow.holds Try.pinned (OpenSpec.ofChange statesAheadWrong)

/-- 'portmanteaulaw10.StatesUnlike': WHATEVER THE INPUT: true; the input reads as it did. -/
def statesUnlikeSpec : ChangeSpec := { name := "statesUnlike", fn := fun _ => fun
  | [d1, d2, d3, d4] => { results := [.lit (.bool true)], args := [d1, d2, d3, d4] }
  | _ => none }
def statesUnlikeRow : OpenClaim := { program := "ytpedhioicfjpkaa", sum := "778f3c41c4ad28c5437b4df7d52a2961702efd1631cd1e6f078d94cc8100422d", func := "portmanteau/portmanteaulaw10.StatesUnlike", spec := "statesUnlike", unfollowed := true, recurses := true, apart := false }
def StatesUnlikeSaid : Prop := statesUnlikeRow.holds Try.pinned (OpenSpec.ofChange statesUnlikeSpec)

/-- ITS FALSE NEIGHBOUR: 'it returns false'. Refute it at one input. -/
def statesUnlikeWrong : ChangeSpec := { name := "statesUnlike", fn := fun _ => fun
  | [d1, d2, d3, d4] => { results := [.lit (.bool false)], args := [d1, d2, d3, d4] }
  | _ => none }
def StatesUnlikeWrongFalsely : Prop := statesUnlikeRow.holds Try.pinned (OpenSpec.ofChange statesUnlikeWrong)

/-- 'portmanteaulaw10.StatesNew': WHATEVER THE INPUT: true; the input reads as it did. -/
def statesNewSpec : ChangeSpec := { name := "statesNew", fn := fun _ => fun
  | [d1, d2] => { results := [.lit (.bool true)], args := [d1, d2] }
  | _ => none }
def statesNewRow : OpenClaim := { program := "ytpedhioicfjpkaa", sum := "778f3c41c4ad28c5437b4df7d52a2961702efd1631cd1e6f078d94cc8100422d", func := "portmanteau/portmanteaulaw10.StatesNew", spec := "statesNew", unfollowed := true, recurses := true, apart := false }
def StatesNewSaid : Prop := statesNewRow.holds Try.pinned (OpenSpec.ofChange statesNewSpec)

/-- ITS FALSE NEIGHBOUR: 'it returns false'. Refute it at one input. -/
def statesNewWrong : ChangeSpec := { name := "statesNew", fn := fun _ => fun
  | [d1, d2] => { results := [.lit (.bool false)], args := [d1, d2] }
  | _ => none }
def StatesNewWrongFalsely : Prop := statesNewRow.holds Try.pinned (OpenSpec.ofChange statesNewWrong)

/-- 'portmanteaulaw10.StatesBack': WHATEVER THE INPUT: true; the input reads as it did. -/
def statesBackSpec : ChangeSpec := { name := "statesBack", fn := fun _ => fun
  | [d1, d2, d3, d4] => { results := [.lit (.bool true)], args := [d1, d2, d3, d4] }
  | _ => none }
def statesBackRow : OpenClaim := { program := "ytpedhioicfjpkaa", sum := "778f3c41c4ad28c5437b4df7d52a2961702efd1631cd1e6f078d94cc8100422d", func := "portmanteau/portmanteaulaw10.StatesBack", spec := "statesBack", unfollowed := true, recurses := true, apart := false }
def StatesBackSaid : Prop := statesBackRow.holds Try.pinned (OpenSpec.ofChange statesBackSpec)

/-- ITS FALSE NEIGHBOUR: 'it returns false'. Refute it at one input. -/
def statesBackWrong : ChangeSpec := { name := "statesBack", fn := fun _ => fun
  | [d1, d2, d3, d4] => { results := [.lit (.bool false)], args := [d1, d2, d3, d4] }
  | _ => none }
def StatesBackWrongFalsely : Prop := statesBackRow.holds Try.pinned (OpenSpec.ofChange statesBackWrong)

/-- 'portmanteaulaw10.StatesOnto': WHATEVER THE INPUT: true; the input reads as it did. -/
def statesOntoSpec : ChangeSpec := { name := "statesOnto", fn := fun _ => fun
  | [d1, d2, d3] => { results := [.lit (.bool true)], args := [d1, d2, d3] }
  | _ => none }
def statesOntoRow : OpenClaim := { program := "ytpedhioicfjpkaa", sum := "778f3c41c4ad28c5437b4df7d52a2961702efd1631cd1e6f078d94cc8100422d", func := "portmanteau/portmanteaulaw10.StatesOnto", spec := "statesOnto", unfollowed := true, recurses := true, apart := false }
def StatesOntoSaid : Prop := statesOntoRow.holds Try.pinned (OpenSpec.ofChange statesOntoSpec)

/-- ITS FALSE NEIGHBOUR: 'it returns false'. Refute it at one input. -/
def statesOntoWrong : ChangeSpec := { name := "statesOnto", fn := fun _ => fun
  | [d1, d2, d3] => { results := [.lit (.bool false)], args := [d1, d2, d3] }
  | _ => none }
def StatesOntoWrongFalsely : Prop := statesOntoRow.holds Try.pinned (OpenSpec.ofChange statesOntoWrong)

/-- 'portmanteaulaw10.StatesWalk': WHATEVER THE INPUT: true; the input reads as it did. -/
def statesWalkSpec : ChangeSpec := { name := "statesWalk", fn := fun _ => fun
  | [d1, d2] => { results := [.lit (.bool true)], args := [d1, d2] }
  | _ => none }
def statesWalkRow : OpenClaim := { program := "ytpedhioicfjpkaa", sum := "778f3c41c4ad28c5437b4df7d52a2961702efd1631cd1e6f078d94cc8100422d", func := "portmanteau/portmanteaulaw10.StatesWalk", spec := "statesWalk", unfollowed := true, recurses := true, apart := false }
def StatesWalkSaid : Prop := statesWalkRow.holds Try.pinned (OpenSpec.ofChange statesWalkSpec)

/-- ITS FALSE NEIGHBOUR: 'it returns false'. Refute it at one input. -/
def statesWalkWrong : ChangeSpec := { name := "statesWalk", fn := fun _ => fun
  | [d1, d2] => { results := [.lit (.bool false)], args := [d1, d2] }
  | _ => none }
def StatesWalkWrongFalsely : Prop := statesWalkRow.holds Try.pinned (OpenSpec.ofChange statesWalkWrong)

/-- 'portmanteaulaw10.StatesNext': WHATEVER THE INPUT: true; the input reads as it did. -/
def statesNextSpec : ChangeSpec := { name := "statesNext", fn := fun _ => fun
  | [d1, d2, d3] => { results := [.lit (.bool true)], args := [d1, d2, d3] }
  | _ => none }
def statesNextRow : OpenClaim := { program := "ytpedhioicfjpkaa", sum := "778f3c41c4ad28c5437b4df7d52a2961702efd1631cd1e6f078d94cc8100422d", func := "portmanteau/portmanteaulaw10.StatesNext", spec := "statesNext", unfollowed := true, recurses := true, apart := false }
def StatesNextSaid : Prop := statesNextRow.holds Try.pinned (OpenSpec.ofChange statesNextSpec)

/-- ITS FALSE NEIGHBOUR: 'it returns false'. Refute it at one input. -/
def statesNextWrong : ChangeSpec := { name := "statesNext", fn := fun _ => fun
  | [d1, d2, d3] => { results := [.lit (.bool false)], args := [d1, d2, d3] }
  | _ => none }
def StatesNextWrongFalsely : Prop := statesNextRow.holds Try.pinned (OpenSpec.ofChange statesNextWrong)

/-- 'portmanteaulaw10.StatesNil': WHATEVER THE INPUT: true; the input reads as it did. -/
def statesNilSpec : ChangeSpec := { name := "statesNil", fn := fun _ => fun
  | [d1, d2, d3] => { results := [.lit (.bool true)], args := [d1, d2, d3] }
  | _ => none }
def statesNilRow : OpenClaim := { program := "ytpedhioicfjpkaa", sum := "778f3c41c4ad28c5437b4df7d52a2961702efd1631cd1e6f078d94cc8100422d", func := "portmanteau/portmanteaulaw10.StatesNil", spec := "statesNil", unfollowed := true, recurses := true, apart := false }
def StatesNilSaid : Prop := statesNilRow.holds Try.pinned (OpenSpec.ofChange statesNilSpec)

/-- ITS FALSE NEIGHBOUR: 'it returns false'. Refute it at one input. -/
def statesNilWrong : ChangeSpec := { name := "statesNil", fn := fun _ => fun
  | [d1, d2, d3] => { results := [.lit (.bool false)], args := [d1, d2, d3] }
  | _ => none }
def StatesNilWrongFalsely : Prop := statesNilRow.holds Try.pinned (OpenSpec.ofChange statesNilWrong)

/- THE SECOND FORM. 'bulk': how many values and letters a reading holds, each counted each time it is reached (what is shared counts as often as it is met; a slice's spare places count too). A statement '..UptoSaid' is the law's where the arguments, and the package variables that the reading takes, are together of bulk at most 1048576: NARROWER than '..Said'. Prove '..Said' where nothing that the law and all that it calls make is longer than what came in: it says more and counts as full. Else prove '..UptoSaid'. A law counts once. -/
mutual
def uptoBulk {H : Type} : DataW H → Nat
  | .lit (.string bytes) => bytes.length + 1
  | .lit _ => 1
  | .nil => 1
  | .ptr d => uptoBulk d + 1
  | .slice elems spare => uptoBulkAll elems + uptoBulkAll spare + 1
  | .agg parts => uptoBulkAll parts + 1
  | .iface _ d => uptoBulk d + 1
  | .map entries => uptoBulkEntries entries + 1
  | .held _ => 1
def uptoBulkAll {H : Type} : List (DataW H) → Nat
  | [] => 0
  | d :: r => uptoBulk d + uptoBulkAll r
def uptoBulkEntries {H : Type} : List (Lit × DataW H) → Nat
  | [] => 0
  | x :: r => uptoBulkEntry x + uptoBulkEntries r
def uptoBulkEntry {H : Type} : Lit × DataW H → Nat
  | (.string bytes, d) => bytes.length + uptoBulk d + 1
  | (_, d) => uptoBulk d + 1
 end
def uptoSmall : (H : Type) → List (DataW H) → Bool := fun _ ds => decide (uptoBulkAll ds ≤ 1048576)
def OpenSpec.upto (s : _root_.Go.ChangeSpec) : _root_.Go.OpenSpec := { _root_.Go.OpenSpec.ofChange s with cond := some uptoSmall }

/-- 'portmanteaulaw10.StatesAhead', WHERE WHAT IT READS IS OF BULK AT MOST 1048576: true; the input reads as it did. -/
def statesAheadUptoRow : OpenClaim := { program := "ytpedhioicfjpkaa", sum := "778f3c41c4ad28c5437b4df7d52a2961702efd1631cd1e6f078d94cc8100422d", func := "portmanteau/portmanteaulaw10.StatesAhead", spec := "statesAhead", unfollowed := true, recurses := true, apart := false, narrowed := true }
def StatesAheadUptoSaid : Prop := statesAheadUptoRow.holds Try.pinned (OpenSpec.upto statesAheadSpec)

/-- 'portmanteaulaw10.StatesUnlike', WHERE WHAT IT READS IS OF BULK AT MOST 1048576: true; the input reads as it did. -/
def statesUnlikeUptoRow : OpenClaim := { program := "ytpedhioicfjpkaa", sum := "778f3c41c4ad28c5437b4df7d52a2961702efd1631cd1e6f078d94cc8100422d", func := "portmanteau/portmanteaulaw10.StatesUnlike", spec := "statesUnlike", unfollowed := true, recurses := true, apart := false, narrowed := true }
def StatesUnlikeUptoSaid : Prop := statesUnlikeUptoRow.holds Try.pinned (OpenSpec.upto statesUnlikeSpec)

/-- 'portmanteaulaw10.StatesNew', WHERE WHAT IT READS IS OF BULK AT MOST 1048576: true; the input reads as it did. -/
def statesNewUptoRow : OpenClaim := { program := "ytpedhioicfjpkaa", sum := "778f3c41c4ad28c5437b4df7d52a2961702efd1631cd1e6f078d94cc8100422d", func := "portmanteau/portmanteaulaw10.StatesNew", spec := "statesNew", unfollowed := true, recurses := true, apart := false, narrowed := true }
def StatesNewUptoSaid : Prop := statesNewUptoRow.holds Try.pinned (OpenSpec.upto statesNewSpec)

/-- 'portmanteaulaw10.StatesBack', WHERE WHAT IT READS IS OF BULK AT MOST 1048576: true; the input reads as it did. -/
def statesBackUptoRow : OpenClaim := { program := "ytpedhioicfjpkaa", sum := "778f3c41c4ad28c5437b4df7d52a2961702efd1631cd1e6f078d94cc8100422d", func := "portmanteau/portmanteaulaw10.StatesBack", spec := "statesBack", unfollowed := true, recurses := true, apart := false, narrowed := true }
def StatesBackUptoSaid : Prop := statesBackUptoRow.holds Try.pinned (OpenSpec.upto statesBackSpec)

/-- 'portmanteaulaw10.StatesOnto', WHERE WHAT IT READS IS OF BULK AT MOST 1048576: true; the input reads as it did. -/
def statesOntoUptoRow : OpenClaim := { program := "ytpedhioicfjpkaa", sum := "778f3c41c4ad28c5437b4df7d52a2961702efd1631cd1e6f078d94cc8100422d", func := "portmanteau/portmanteaulaw10.StatesOnto", spec := "statesOnto", unfollowed := true, recurses := true, apart := false, narrowed := true }
def StatesOntoUptoSaid : Prop := statesOntoUptoRow.holds Try.pinned (OpenSpec.upto statesOntoSpec)

/-- 'portmanteaulaw10.StatesWalk', WHERE WHAT IT READS IS OF BULK AT MOST 1048576: true; the input reads as it did. -/
def statesWalkUptoRow : OpenClaim := { program := "ytpedhioicfjpkaa", sum := "778f3c41c4ad28c5437b4df7d52a2961702efd1631cd1e6f078d94cc8100422d", func := "portmanteau/portmanteaulaw10.StatesWalk", spec := "statesWalk", unfollowed := true, recurses := true, apart := false, narrowed := true }
def StatesWalkUptoSaid : Prop := statesWalkUptoRow.holds Try.pinned (OpenSpec.upto statesWalkSpec)

/-- 'portmanteaulaw10.StatesNext', WHERE WHAT IT READS IS OF BULK AT MOST 1048576: true; the input reads as it did. -/
def statesNextUptoRow : OpenClaim := { program := "ytpedhioicfjpkaa", sum := "778f3c41c4ad28c5437b4df7d52a2961702efd1631cd1e6f078d94cc8100422d", func := "portmanteau/portmanteaulaw10.StatesNext", spec := "statesNext", unfollowed := true, recurses := true, apart := false, narrowed := true }
def StatesNextUptoSaid : Prop := statesNextUptoRow.holds Try.pinned (OpenSpec.upto statesNextSpec)

/-- 'portmanteaulaw10.StatesNil', WHERE WHAT IT READS IS OF BULK AT MOST 1048576: true; the input reads as it did. -/
def statesNilUptoRow : OpenClaim := { program := "ytpedhioicfjpkaa", sum := "778f3c41c4ad28c5437b4df7d52a2961702efd1631cd1e6f078d94cc8100422d", func := "portmanteau/portmanteaulaw10.StatesNil", spec := "statesNil", unfollowed := true, recurses := true, apart := false, narrowed := true }
def StatesNilUptoSaid : Prop := statesNilUptoRow.holds Try.pinned (OpenSpec.upto statesNilSpec)

end Rows
end Go.Proofs.Ytpedhioicfjpkaa
