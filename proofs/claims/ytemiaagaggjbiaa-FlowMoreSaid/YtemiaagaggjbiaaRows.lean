/-
  No cell of these rows narrows 'for every input' (looked for: loops, veiled, ifaces, maps, wideKeys, modest, calm, conditions, laid).
  DERIVED. THE GIVEN ROWS OF THIS SEAT. 9 by the template 'for every input the law returns true; each argument reads behind the call as it read before'; 0 by the template 'total and deterministic' (their statements: YtemiaagaggjbiaaTotals.lean).
  GIVEN WITH THE SEED: the statements are not yours to turn. If you find one false, say at which input.
  Laid BY PROGRAM, IN A SANDBOX (cutbox-rows.mjs): the forced cells as the released guide's own fill.sh prints them over the translation 50e1e9111ec71902… (all of the seat's roots in one cut). By AI agents, Wed Nov 11 2026. No macro, syntax, notation, axiom, sorry.
-/
import Derived.Test.YtemiaagaggjbiaaChecked
import GoSem.Claim
import GoSem.ClaimJoined
import GoSem.ClaimMapViews
import Derived.JoinedTies
import Derived.KernelRfl
namespace Go.Proofs.Ytemiaagaggjbiaa
/- THE CELL 'sum', in the pinned program and in every row, IS THE sha256 OF THE DUMP (.gsa) THAT YtemiaagaggjbiaaProg.lean LOADS. Nothing in Lean hashes anything: it is a label: what it is worth is what the hold of that sum in a sandbox is worth. -/
noncomputable def Try.pinned : Pinned := { name := "ytemiaagaggjbiaa", sum := "50e1e9111ec719020faff5149f2eba21f6b3be8ac55963361e02ebcf41c0494c", checked := Try.checked }
namespace Rows
def none {H : Type} : Left H := { results := [], args := [] }

/-- 'portmanteaulaw12.FlowDecodes': WHATEVER THE INPUT: true; the input reads as it did. -/
def flowDecodesSpec : ChangeSpec := { name := "flowDecodes", fn := fun _ => fun
  | [d1, d2, d3] => { results := [.lit (.bool true)], args := [d1, d2, d3] }
  | _ => none }
def flowDecodesRow : OpenClaim := { program := "ytemiaagaggjbiaa", sum := "50e1e9111ec719020faff5149f2eba21f6b3be8ac55963361e02ebcf41c0494c", func := "portmanteau/portmanteaulaw12.FlowDecodes", spec := "flowDecodes", unfollowed := true, recurses := true, apart := false }
def FlowDecodesSaid : Prop := flowDecodesRow.holds Try.pinned (OpenSpec.ofChange flowDecodesSpec)

/-- ITS FALSE NEIGHBOUR: 'it returns false'. Refute it at one input. -/
def flowDecodesWrong : ChangeSpec := { name := "flowDecodes", fn := fun _ => fun
  | [d1, d2, d3] => { results := [.lit (.bool false)], args := [d1, d2, d3] }
  | _ => none }
def FlowDecodesWrongFalsely : Prop := flowDecodesRow.holds Try.pinned (OpenSpec.ofChange flowDecodesWrong)

/-- 'portmanteaulaw12.FlowTotal': WHATEVER THE INPUT: true; the input reads as it did. -/
def flowTotalSpec : ChangeSpec := { name := "flowTotal", fn := fun _ => fun
  | [d1, d2, d3] => { results := [.lit (.bool true)], args := [d1, d2, d3] }
  | _ => none }
def flowTotalRow : OpenClaim := { program := "ytemiaagaggjbiaa", sum := "50e1e9111ec719020faff5149f2eba21f6b3be8ac55963361e02ebcf41c0494c", func := "portmanteau/portmanteaulaw12.FlowTotal", spec := "flowTotal", unfollowed := true, recurses := true, apart := false }
def FlowTotalSaid : Prop := flowTotalRow.holds Try.pinned (OpenSpec.ofChange flowTotalSpec)

/-- ITS FALSE NEIGHBOUR: 'it returns false'. Refute it at one input. -/
def flowTotalWrong : ChangeSpec := { name := "flowTotal", fn := fun _ => fun
  | [d1, d2, d3] => { results := [.lit (.bool false)], args := [d1, d2, d3] }
  | _ => none }
def FlowTotalWrongFalsely : Prop := flowTotalRow.holds Try.pinned (OpenSpec.ofChange flowTotalWrong)

/-- 'portmanteaulaw12.FlowEncodes': WHATEVER THE INPUT: true; the input reads as it did. -/
def flowEncodesSpec : ChangeSpec := { name := "flowEncodes", fn := fun _ => fun
  | [d1, d2] => { results := [.lit (.bool true)], args := [d1, d2] }
  | _ => none }
def flowEncodesRow : OpenClaim := { program := "ytemiaagaggjbiaa", sum := "50e1e9111ec719020faff5149f2eba21f6b3be8ac55963361e02ebcf41c0494c", func := "portmanteau/portmanteaulaw12.FlowEncodes", spec := "flowEncodes", unfollowed := true, recurses := true, apart := false }
def FlowEncodesSaid : Prop := flowEncodesRow.holds Try.pinned (OpenSpec.ofChange flowEncodesSpec)

/-- ITS FALSE NEIGHBOUR: 'it returns false'. Refute it at one input. -/
def flowEncodesWrong : ChangeSpec := { name := "flowEncodes", fn := fun _ => fun
  | [d1, d2] => { results := [.lit (.bool false)], args := [d1, d2] }
  | _ => none }
def FlowEncodesWrongFalsely : Prop := flowEncodesRow.holds Try.pinned (OpenSpec.ofChange flowEncodesWrong)

/-- 'portmanteaulaw12.FlowBack': WHATEVER THE INPUT: true; the input reads as it did. -/
def flowBackSpec : ChangeSpec := { name := "flowBack", fn := fun _ => fun
  | [d1, d2] => { results := [.lit (.bool true)], args := [d1, d2] }
  | _ => none }
def flowBackRow : OpenClaim := { program := "ytemiaagaggjbiaa", sum := "50e1e9111ec719020faff5149f2eba21f6b3be8ac55963361e02ebcf41c0494c", func := "portmanteau/portmanteaulaw12.FlowBack", spec := "flowBack", unfollowed := true, recurses := true, apart := false }
def FlowBackSaid : Prop := flowBackRow.holds Try.pinned (OpenSpec.ofChange flowBackSpec)

/-- ITS FALSE NEIGHBOUR: 'it returns false'. Refute it at one input. -/
def flowBackWrong : ChangeSpec := { name := "flowBack", fn := fun _ => fun
  | [d1, d2] => { results := [.lit (.bool false)], args := [d1, d2] }
  | _ => none }
def FlowBackWrongFalsely : Prop := flowBackRow.holds Try.pinned (OpenSpec.ofChange flowBackWrong)

/-- 'portmanteaulaw12.FlowLength': WHATEVER THE INPUT: true; the input reads as it did. -/
def flowLengthSpec : ChangeSpec := { name := "flowLength", fn := fun _ => fun
  | [d1, d2] => { results := [.lit (.bool true)], args := [d1, d2] }
  | _ => none }
def flowLengthRow : OpenClaim := { program := "ytemiaagaggjbiaa", sum := "50e1e9111ec719020faff5149f2eba21f6b3be8ac55963361e02ebcf41c0494c", func := "portmanteau/portmanteaulaw12.FlowLength", spec := "flowLength", unfollowed := true, recurses := true, apart := false }
def FlowLengthSaid : Prop := flowLengthRow.holds Try.pinned (OpenSpec.ofChange flowLengthSpec)

/-- ITS FALSE NEIGHBOUR: 'it returns false'. Refute it at one input. -/
def flowLengthWrong : ChangeSpec := { name := "flowLength", fn := fun _ => fun
  | [d1, d2] => { results := [.lit (.bool false)], args := [d1, d2] }
  | _ => none }
def FlowLengthWrongFalsely : Prop := flowLengthRow.holds Try.pinned (OpenSpec.ofChange flowLengthWrong)

/-- 'portmanteaulaw12.FlowMore': WHATEVER THE INPUT: true; the input reads as it did. -/
def flowMoreSpec : ChangeSpec := { name := "flowMore", fn := fun _ => fun
  | [d1, d2, d3] => { results := [.lit (.bool true)], args := [d1, d2, d3] }
  | _ => none }
def flowMoreRow : OpenClaim := { program := "ytemiaagaggjbiaa", sum := "50e1e9111ec719020faff5149f2eba21f6b3be8ac55963361e02ebcf41c0494c", func := "portmanteau/portmanteaulaw12.FlowMore", spec := "flowMore", unfollowed := true, recurses := true, apart := false }
def FlowMoreSaid : Prop := flowMoreRow.holds Try.pinned (OpenSpec.ofChange flowMoreSpec)

/-- ITS FALSE NEIGHBOUR: 'it returns false'. Refute it at one input. -/
def flowMoreWrong : ChangeSpec := { name := "flowMore", fn := fun _ => fun
  | [d1, d2, d3] => { results := [.lit (.bool false)], args := [d1, d2, d3] }
  | _ => none }
def FlowMoreWrongFalsely : Prop := flowMoreRow.holds Try.pinned (OpenSpec.ofChange flowMoreWrong)

/-- 'portmanteaulaw12.FlowAgain': WHATEVER THE INPUT: true; the input reads as it did. -/
def flowAgainSpec : ChangeSpec := { name := "flowAgain", fn := fun _ => fun
  | [d1, d2, d3, d4] => { results := [.lit (.bool true)], args := [d1, d2, d3, d4] }
  | _ => none }
def flowAgainRow : OpenClaim := { program := "ytemiaagaggjbiaa", sum := "50e1e9111ec719020faff5149f2eba21f6b3be8ac55963361e02ebcf41c0494c", func := "portmanteau/portmanteaulaw12.FlowAgain", spec := "flowAgain", unfollowed := true, recurses := true, apart := false }
def FlowAgainSaid : Prop := flowAgainRow.holds Try.pinned (OpenSpec.ofChange flowAgainSpec)

/-- ITS FALSE NEIGHBOUR: 'it returns false'. Refute it at one input. -/
def flowAgainWrong : ChangeSpec := { name := "flowAgain", fn := fun _ => fun
  | [d1, d2, d3, d4] => { results := [.lit (.bool false)], args := [d1, d2, d3, d4] }
  | _ => none }
def FlowAgainWrongFalsely : Prop := flowAgainRow.holds Try.pinned (OpenSpec.ofChange flowAgainWrong)

/-- 'portmanteaulaw12.FlowMost': WHATEVER THE INPUT: true; the input reads as it did. -/
def flowMostSpec : ChangeSpec := { name := "flowMost", fn := fun _ => fun
  | [d1, d2] => { results := [.lit (.bool true)], args := [d1, d2] }
  | _ => none }
def flowMostRow : OpenClaim := { program := "ytemiaagaggjbiaa", sum := "50e1e9111ec719020faff5149f2eba21f6b3be8ac55963361e02ebcf41c0494c", func := "portmanteau/portmanteaulaw12.FlowMost", spec := "flowMost", unfollowed := true, recurses := true, apart := false }
def FlowMostSaid : Prop := flowMostRow.holds Try.pinned (OpenSpec.ofChange flowMostSpec)

/-- ITS FALSE NEIGHBOUR: 'it returns false'. Refute it at one input. -/
def flowMostWrong : ChangeSpec := { name := "flowMost", fn := fun _ => fun
  | [d1, d2] => { results := [.lit (.bool false)], args := [d1, d2] }
  | _ => none }
def FlowMostWrongFalsely : Prop := flowMostRow.holds Try.pinned (OpenSpec.ofChange flowMostWrong)

/-- 'portmanteaulaw12.FlowOwn': WHATEVER THE INPUT: true; the input reads as it did. -/
def flowOwnSpec : ChangeSpec := { name := "flowOwn", fn := fun _ => fun
  | [d1, d2] => { results := [.lit (.bool true)], args := [d1, d2] }
  | _ => none }
def flowOwnRow : OpenClaim := { program := "ytemiaagaggjbiaa", sum := "50e1e9111ec719020faff5149f2eba21f6b3be8ac55963361e02ebcf41c0494c", func := "portmanteau/portmanteaulaw12.FlowOwn", spec := "flowOwn", unfollowed := true, recurses := true, apart := false }
def FlowOwnSaid : Prop := flowOwnRow.holds Try.pinned (OpenSpec.ofChange flowOwnSpec)

/-- ITS FALSE NEIGHBOUR: 'it returns false'. Refute it at one input. -/
def flowOwnWrong : ChangeSpec := { name := "flowOwn", fn := fun _ => fun
  | [d1, d2] => { results := [.lit (.bool false)], args := [d1, d2] }
  | _ => none }
def FlowOwnWrongFalsely : Prop := flowOwnRow.holds Try.pinned (OpenSpec.ofChange flowOwnWrong)

/- THE SECOND FORM. 'bulk': how many values and letters a reading holds, each counted each time it is reached (what is shared counts as often as it is met; a slice's spare places count too). A statement '..UptoSaid' is the law's where the arguments, and the package variables that the reading takes, are together of bulk at most 1048576: NARROWER than '..Said'. Prove '..Said' where nothing that the law and all that it calls make is longer than what came in: it says more and counts as full. Else prove '..UptoSaid'. A law counts once. -/
mutual
def uptoBulk {H : Type} : DataW H → Nat
  | .lit (.string bytes) => bytes.length + 1
  | .lit _ => 1
  | .nil => 1
  | .ptr d => uptoBulk d + 1
  | .slice elems spare => uptoBulkAll elems + uptoBulkAll spare + 1
  | .agg parts => uptoBulkAll parts + 1
  | .iface _ d => uptoBulk d + 1
  | .map entries => uptoBulkEntries entries + 1
  | .held _ => 1
def uptoBulkAll {H : Type} : List (DataW H) → Nat
  | [] => 0
  | d :: r => uptoBulk d + uptoBulkAll r
def uptoBulkEntries {H : Type} : List (Lit × DataW H) → Nat
  | [] => 0
  | x :: r => uptoBulkEntry x + uptoBulkEntries r
def uptoBulkEntry {H : Type} : Lit × DataW H → Nat
  | (.string bytes, d) => bytes.length + uptoBulk d + 1
  | (_, d) => uptoBulk d + 1
 end
def uptoSmall : (H : Type) → List (DataW H) → Bool := fun _ ds => decide (uptoBulkAll ds ≤ 1048576)
def OpenSpec.upto (s : _root_.Go.ChangeSpec) : _root_.Go.OpenSpec := { _root_.Go.OpenSpec.ofChange s with cond := some uptoSmall }

/-- 'portmanteaulaw12.FlowDecodes', WHERE WHAT IT READS IS OF BULK AT MOST 1048576: true; the input reads as it did. -/
def flowDecodesUptoRow : OpenClaim := { program := "ytemiaagaggjbiaa", sum := "50e1e9111ec719020faff5149f2eba21f6b3be8ac55963361e02ebcf41c0494c", func := "portmanteau/portmanteaulaw12.FlowDecodes", spec := "flowDecodes", unfollowed := true, recurses := true, apart := false, narrowed := true }
def FlowDecodesUptoSaid : Prop := flowDecodesUptoRow.holds Try.pinned (OpenSpec.upto flowDecodesSpec)

/-- 'portmanteaulaw12.FlowTotal', WHERE WHAT IT READS IS OF BULK AT MOST 1048576: true; the input reads as it did. -/
def flowTotalUptoRow : OpenClaim := { program := "ytemiaagaggjbiaa", sum := "50e1e9111ec719020faff5149f2eba21f6b3be8ac55963361e02ebcf41c0494c", func := "portmanteau/portmanteaulaw12.FlowTotal", spec := "flowTotal", unfollowed := true, recurses := true, apart := false, narrowed := true }
def FlowTotalUptoSaid : Prop := flowTotalUptoRow.holds Try.pinned (OpenSpec.upto flowTotalSpec)

/-- 'portmanteaulaw12.FlowEncodes', WHERE WHAT IT READS IS OF BULK AT MOST 1048576: true; the input reads as it did. -/
def flowEncodesUptoRow : OpenClaim := { program := "ytemiaagaggjbiaa", sum := "50e1e9111ec719020faff5149f2eba21f6b3be8ac55963361e02ebcf41c0494c", func := "portmanteau/portmanteaulaw12.FlowEncodes", spec := "flowEncodes", unfollowed := true, recurses := true, apart := false, narrowed := true }
def FlowEncodesUptoSaid : Prop := flowEncodesUptoRow.holds Try.pinned (OpenSpec.upto flowEncodesSpec)

/-- 'portmanteaulaw12.FlowBack', WHERE WHAT IT READS IS OF BULK AT MOST 1048576: true; the input reads as it did. -/
def flowBackUptoRow : OpenClaim := { program := "ytemiaagaggjbiaa", sum := "50e1e9111ec719020faff5149f2eba21f6b3be8ac55963361e02ebcf41c0494c", func := "portmanteau/portmanteaulaw12.FlowBack", spec := "flowBack", unfollowed := true, recurses := true, apart := false, narrowed := true }
def FlowBackUptoSaid : Prop := flowBackUptoRow.holds Try.pinned (OpenSpec.upto flowBackSpec)

/-- 'portmanteaulaw12.FlowLength', WHERE WHAT IT READS IS OF BULK AT MOST 1048576: true; the input reads as it did. -/
def flowLengthUptoRow : OpenClaim := { program := "ytemiaagaggjbiaa", sum := "50e1e9111ec719020faff5149f2eba21f6b3be8ac55963361e02ebcf41c0494c", func := "portmanteau/portmanteaulaw12.FlowLength", spec := "flowLength", unfollowed := true, recurses := true, apart := false, narrowed := true }
def FlowLengthUptoSaid : Prop := flowLengthUptoRow.holds Try.pinned (OpenSpec.upto flowLengthSpec)

/-- 'portmanteaulaw12.FlowMore', WHERE WHAT IT READS IS OF BULK AT MOST 1048576: true; the input reads as it did. -/
def flowMoreUptoRow : OpenClaim := { program := "ytemiaagaggjbiaa", sum := "50e1e9111ec719020faff5149f2eba21f6b3be8ac55963361e02ebcf41c0494c", func := "portmanteau/portmanteaulaw12.FlowMore", spec := "flowMore", unfollowed := true, recurses := true, apart := false, narrowed := true }
def FlowMoreUptoSaid : Prop := flowMoreUptoRow.holds Try.pinned (OpenSpec.upto flowMoreSpec)

/-- 'portmanteaulaw12.FlowAgain', WHERE WHAT IT READS IS OF BULK AT MOST 1048576: true; the input reads as it did. -/
def flowAgainUptoRow : OpenClaim := { program := "ytemiaagaggjbiaa", sum := "50e1e9111ec719020faff5149f2eba21f6b3be8ac55963361e02ebcf41c0494c", func := "portmanteau/portmanteaulaw12.FlowAgain", spec := "flowAgain", unfollowed := true, recurses := true, apart := false, narrowed := true }
def FlowAgainUptoSaid : Prop := flowAgainUptoRow.holds Try.pinned (OpenSpec.upto flowAgainSpec)

/-- 'portmanteaulaw12.FlowMost', WHERE WHAT IT READS IS OF BULK AT MOST 1048576: true; the input reads as it did. -/
def flowMostUptoRow : OpenClaim := { program := "ytemiaagaggjbiaa", sum := "50e1e9111ec719020faff5149f2eba21f6b3be8ac55963361e02ebcf41c0494c", func := "portmanteau/portmanteaulaw12.FlowMost", spec := "flowMost", unfollowed := true, recurses := true, apart := false, narrowed := true }
def FlowMostUptoSaid : Prop := flowMostUptoRow.holds Try.pinned (OpenSpec.upto flowMostSpec)

/-- 'portmanteaulaw12.FlowOwn', WHERE WHAT IT READS IS OF BULK AT MOST 1048576: true; the input reads as it did. -/
def flowOwnUptoRow : OpenClaim := { program := "ytemiaagaggjbiaa", sum := "50e1e9111ec719020faff5149f2eba21f6b3be8ac55963361e02ebcf41c0494c", func := "portmanteau/portmanteaulaw12.FlowOwn", spec := "flowOwn", unfollowed := true, recurses := true, apart := false, narrowed := true }
def FlowOwnUptoSaid : Prop := flowOwnUptoRow.holds Try.pinned (OpenSpec.upto flowOwnSpec)

end Rows
end Go.Proofs.Ytemiaagaggjbiaa
