/-
  No cell of these rows narrows 'for every input' (looked for: loops, veiled, ifaces, maps, wideKeys, modest, calm, conditions, laid).
  DERIVED. THE GIVEN ROWS OF THIS SEAT. 8 by the template 'for every input the law returns true; each argument reads behind the call as it read before'; 0 by the template 'total and deterministic' (their statements: YtbhpflckcehcfaaTotals.lean).
  GIVEN WITH THE SEED: the statements are not yours to turn. If you find one false, say at which input.
  Laid BY PROGRAM, IN A SANDBOX (cutbox-rows.mjs): the forced cells as the released guide's own fill.sh prints them over the translation 3741a8dff6a946ef… (all of the seat's roots in one cut). By AI agents, Wed Nov 11 2026. No macro, syntax, notation, axiom, sorry.
-/
import Derived.Test.YtbhpflckcehcfaaChecked
import GoSem.Claim
import GoSem.ClaimJoined
import GoSem.ClaimMapViews
import Derived.JoinedTies
import Derived.KernelRfl
namespace Go.Proofs.Ytbhpflckcehcfaa
/- THE CELL 'sum', in the pinned program and in every row, IS THE sha256 OF THE DUMP (.gsa) THAT YtbhpflckcehcfaaProg.lean LOADS. Nothing in Lean hashes anything: it is a label: what it is worth is what the hold of that sum in a sandbox is worth. -/
noncomputable def Try.pinned : Pinned := { name := "ytbhpflckcehcfaa", sum := "3741a8dff6a946ef7f2f61fa72d4c1f9c05d985ee3052be62070460dddf01672", checked := Try.checked }
namespace Rows
def none {H : Type} : Left H := { results := [], args := [] }

/-- 'portmanteaulaw02.BitoutPuts': WHATEVER THE INPUT: true; the input reads as it did. -/
def bitoutPutsSpec : ChangeSpec := { name := "bitoutPuts", fn := fun _ => fun
  | [d] => { results := [.lit (.bool true)], args := [d] }
  | _ => none }
def bitoutPutsRow : OpenClaim := { program := "ytbhpflckcehcfaa", sum := "3741a8dff6a946ef7f2f61fa72d4c1f9c05d985ee3052be62070460dddf01672", func := "portmanteau/portmanteaulaw02.BitoutPuts", spec := "bitoutPuts", apart := false }
def BitoutPutsSaid : Prop := bitoutPutsRow.holds Try.pinned (OpenSpec.ofChange bitoutPutsSpec)

/-- ITS FALSE NEIGHBOUR: 'it returns false'. Refute it at one input. -/
def bitoutPutsWrong : ChangeSpec := { name := "bitoutPuts", fn := fun _ => fun
  | [d] => { results := [.lit (.bool false)], args := [d] }
  | _ => none }
def BitoutPutsWrongFalsely : Prop := bitoutPutsRow.holds Try.pinned (OpenSpec.ofChange bitoutPutsWrong)

/-- 'portmanteaulaw02.BitoutCloses': WHATEVER THE INPUT: true; the input reads as it did. -/
def bitoutClosesSpec : ChangeSpec := { name := "bitoutCloses", fn := fun _ => fun
  | [d] => { results := [.lit (.bool true)], args := [d] }
  | _ => none }
def bitoutClosesRow : OpenClaim := { program := "ytbhpflckcehcfaa", sum := "3741a8dff6a946ef7f2f61fa72d4c1f9c05d985ee3052be62070460dddf01672", func := "portmanteau/portmanteaulaw02.BitoutCloses", spec := "bitoutCloses", apart := false }
def BitoutClosesSaid : Prop := bitoutClosesRow.holds Try.pinned (OpenSpec.ofChange bitoutClosesSpec)

/-- ITS FALSE NEIGHBOUR: 'it returns false'. Refute it at one input. -/
def bitoutClosesWrong : ChangeSpec := { name := "bitoutCloses", fn := fun _ => fun
  | [d] => { results := [.lit (.bool false)], args := [d] }
  | _ => none }
def BitoutClosesWrongFalsely : Prop := bitoutClosesRow.holds Try.pinned (OpenSpec.ofChange bitoutClosesWrong)

/-- 'portmanteaulaw02.BitoutUnlike': WHATEVER THE INPUT: true; the input reads as it did. -/
def bitoutUnlikeSpec : ChangeSpec := { name := "bitoutUnlike", fn := fun _ => fun
  | [d1, d2] => { results := [.lit (.bool true)], args := [d1, d2] }
  | _ => none }
def bitoutUnlikeRow : OpenClaim := { program := "ytbhpflckcehcfaa", sum := "3741a8dff6a946ef7f2f61fa72d4c1f9c05d985ee3052be62070460dddf01672", func := "portmanteau/portmanteaulaw02.BitoutUnlike", spec := "bitoutUnlike", apart := false }
def BitoutUnlikeSaid : Prop := bitoutUnlikeRow.holds Try.pinned (OpenSpec.ofChange bitoutUnlikeSpec)

/-- ITS FALSE NEIGHBOUR: 'it returns false'. Refute it at one input. -/
def bitoutUnlikeWrong : ChangeSpec := { name := "bitoutUnlike", fn := fun _ => fun
  | [d1, d2] => { results := [.lit (.bool false)], args := [d1, d2] }
  | _ => none }
def BitoutUnlikeWrongFalsely : Prop := bitoutUnlikeRow.holds Try.pinned (OpenSpec.ofChange bitoutUnlikeWrong)

/-- 'portmanteaulaw02.BitoutParts': WHATEVER THE INPUT: true; the input reads as it did. -/
def bitoutPartsSpec : ChangeSpec := { name := "bitoutParts", fn := fun _ => fun
  | [d1, d2, d3, d4] => { results := [.lit (.bool true)], args := [d1, d2, d3, d4] }
  | _ => none }
def bitoutPartsRow : OpenClaim := { program := "ytbhpflckcehcfaa", sum := "3741a8dff6a946ef7f2f61fa72d4c1f9c05d985ee3052be62070460dddf01672", func := "portmanteau/portmanteaulaw02.BitoutParts", spec := "bitoutParts", apart := false }
def BitoutPartsSaid : Prop := bitoutPartsRow.holds Try.pinned (OpenSpec.ofChange bitoutPartsSpec)

/-- ITS FALSE NEIGHBOUR: 'it returns false'. Refute it at one input. -/
def bitoutPartsWrong : ChangeSpec := { name := "bitoutParts", fn := fun _ => fun
  | [d1, d2, d3, d4] => { results := [.lit (.bool false)], args := [d1, d2, d3, d4] }
  | _ => none }
def BitoutPartsWrongFalsely : Prop := bitoutPartsRow.holds Try.pinned (OpenSpec.ofChange bitoutPartsWrong)

/-- 'portmanteaulaw02.BitoutRefused': WHATEVER THE INPUT: true; the input reads as it did. -/
def bitoutRefusedSpec : ChangeSpec := { name := "bitoutRefused", fn := fun _ => fun
  | [d1, d2, d3] => { results := [.lit (.bool true)], args := [d1, d2, d3] }
  | _ => none }
def bitoutRefusedRow : OpenClaim := { program := "ytbhpflckcehcfaa", sum := "3741a8dff6a946ef7f2f61fa72d4c1f9c05d985ee3052be62070460dddf01672", func := "portmanteau/portmanteaulaw02.BitoutRefused", spec := "bitoutRefused", apart := false }
def BitoutRefusedSaid : Prop := bitoutRefusedRow.holds Try.pinned (OpenSpec.ofChange bitoutRefusedSpec)

/-- ITS FALSE NEIGHBOUR: 'it returns false'. Refute it at one input. -/
def bitoutRefusedWrong : ChangeSpec := { name := "bitoutRefused", fn := fun _ => fun
  | [d1, d2, d3] => { results := [.lit (.bool false)], args := [d1, d2, d3] }
  | _ => none }
def BitoutRefusedWrongFalsely : Prop := bitoutRefusedRow.holds Try.pinned (OpenSpec.ofChange bitoutRefusedWrong)

/-- 'portmanteaulaw02.BitoutBytes': WHATEVER THE INPUT: true; the input reads as it did. -/
def bitoutBytesSpec : ChangeSpec := { name := "bitoutBytes", fn := fun _ => fun
  | [d1, d2, d3] => { results := [.lit (.bool true)], args := [d1, d2, d3] }
  | _ => none }
def bitoutBytesRow : OpenClaim := { program := "ytbhpflckcehcfaa", sum := "3741a8dff6a946ef7f2f61fa72d4c1f9c05d985ee3052be62070460dddf01672", func := "portmanteau/portmanteaulaw02.BitoutBytes", spec := "bitoutBytes", apart := false }
def BitoutBytesSaid : Prop := bitoutBytesRow.holds Try.pinned (OpenSpec.ofChange bitoutBytesSpec)

/-- ITS FALSE NEIGHBOUR: 'it returns false'. Refute it at one input. -/
def bitoutBytesWrong : ChangeSpec := { name := "bitoutBytes", fn := fun _ => fun
  | [d1, d2, d3] => { results := [.lit (.bool false)], args := [d1, d2, d3] }
  | _ => none }
def BitoutBytesWrongFalsely : Prop := bitoutBytesRow.holds Try.pinned (OpenSpec.ofChange bitoutBytesWrong)

/-- 'portmanteaulaw02.BitoutOwn': WHATEVER THE INPUT: true; the input reads as it did. -/
def bitoutOwnSpec : ChangeSpec := { name := "bitoutOwn", fn := fun _ => fun
  | [d1, d2] => { results := [.lit (.bool true)], args := [d1, d2] }
  | _ => none }
def bitoutOwnRow : OpenClaim := { program := "ytbhpflckcehcfaa", sum := "3741a8dff6a946ef7f2f61fa72d4c1f9c05d985ee3052be62070460dddf01672", func := "portmanteau/portmanteaulaw02.BitoutOwn", spec := "bitoutOwn", apart := false }
def BitoutOwnSaid : Prop := bitoutOwnRow.holds Try.pinned (OpenSpec.ofChange bitoutOwnSpec)

/-- ITS FALSE NEIGHBOUR: 'it returns false'. Refute it at one input. -/
def bitoutOwnWrong : ChangeSpec := { name := "bitoutOwn", fn := fun _ => fun
  | [d1, d2] => { results := [.lit (.bool false)], args := [d1, d2] }
  | _ => none }
def BitoutOwnWrongFalsely : Prop := bitoutOwnRow.holds Try.pinned (OpenSpec.ofChange bitoutOwnWrong)

/-- 'portmanteaulaw02.BitoutNil': WHATEVER THE INPUT: true; the input reads as it did. -/
def bitoutNilSpec : ChangeSpec := { name := "bitoutNil", fn := fun _ => fun
  | [d1, d2] => { results := [.lit (.bool true)], args := [d1, d2] }
  | _ => none }
def bitoutNilRow : OpenClaim := { program := "ytbhpflckcehcfaa", sum := "3741a8dff6a946ef7f2f61fa72d4c1f9c05d985ee3052be62070460dddf01672", func := "portmanteau/portmanteaulaw02.BitoutNil", spec := "bitoutNil", apart := false }
def BitoutNilSaid : Prop := bitoutNilRow.holds Try.pinned (OpenSpec.ofChange bitoutNilSpec)

/-- ITS FALSE NEIGHBOUR: 'it returns false'. Refute it at one input. -/
def bitoutNilWrong : ChangeSpec := { name := "bitoutNil", fn := fun _ => fun
  | [d1, d2] => { results := [.lit (.bool false)], args := [d1, d2] }
  | _ => none }
def BitoutNilWrongFalsely : Prop := bitoutNilRow.holds Try.pinned (OpenSpec.ofChange bitoutNilWrong)

/- THE SECOND FORM. 'bulk': how many values and letters a reading holds, each counted each time it is reached (what is shared counts as often as it is met; a slice's spare places count too). A statement '..UptoSaid' is the law's where the arguments, and the package variables that the reading takes, are together of bulk at most 1048576: NARROWER than '..Said'. Prove '..Said' where nothing that the law and all that it calls make is longer than what came in: it says more and counts as full. Else prove '..UptoSaid'. A law counts once. -/
mutual
def uptoBulk {H : Type} : DataW H → Nat
  | .lit (.string bytes) => bytes.length + 1
  | .lit _ => 1
  | .nil => 1
  | .ptr d => uptoBulk d + 1
  | .slice elems spare => uptoBulkAll elems + uptoBulkAll spare + 1
  | .agg parts => uptoBulkAll parts + 1
  | .iface _ d => uptoBulk d + 1
  | .map entries => uptoBulkEntries entries + 1
  | .held _ => 1
def uptoBulkAll {H : Type} : List (DataW H) → Nat
  | [] => 0
  | d :: r => uptoBulk d + uptoBulkAll r
def uptoBulkEntries {H : Type} : List (Lit × DataW H) → Nat
  | [] => 0
  | x :: r => uptoBulkEntry x + uptoBulkEntries r
def uptoBulkEntry {H : Type} : Lit × DataW H → Nat
  | (.string bytes, d) => bytes.length + uptoBulk d + 1
  | (_, d) => uptoBulk d + 1
 end
def uptoSmall : (H : Type) → List (DataW H) → Bool := fun _ ds => decide (uptoBulkAll ds ≤ 1048576)
def OpenSpec.upto (s : _root_.Go.ChangeSpec) : _root_.Go.OpenSpec := { _root_.Go.OpenSpec.ofChange s with cond := some uptoSmall }

/-- 'portmanteaulaw02.BitoutPuts', WHERE WHAT IT READS IS OF BULK AT MOST 1048576: true; the input reads as it did. -/
def bitoutPutsUptoRow : OpenClaim := { program := "ytbhpflckcehcfaa", sum := "3741a8dff6a946ef7f2f61fa72d4c1f9c05d985ee3052be62070460dddf01672", func := "portmanteau/portmanteaulaw02.BitoutPuts", spec := "bitoutPuts", apart := false, narrowed := true }
def BitoutPutsUptoSaid : Prop := bitoutPutsUptoRow.holds Try.pinned (OpenSpec.upto bitoutPutsSpec)

/-- 'portmanteaulaw02.BitoutCloses', WHERE WHAT IT READS IS OF BULK AT MOST 1048576: true; the input reads as it did. -/
def bitoutClosesUptoRow : OpenClaim := { program := "ytbhpflckcehcfaa", sum := "3741a8dff6a946ef7f2f61fa72d4c1f9c05d985ee3052be62070460dddf01672", func := "portmanteau/portmanteaulaw02.BitoutCloses", spec := "bitoutCloses", apart := false, narrowed := true }
def BitoutClosesUptoSaid : Prop := bitoutClosesUptoRow.holds Try.pinned (OpenSpec.upto bitoutClosesSpec)

/-- 'portmanteaulaw02.BitoutUnlike', WHERE WHAT IT READS IS OF BULK AT MOST 1048576: true; the input reads as it did. -/
def bitoutUnlikeUptoRow : OpenClaim := { program := "ytbhpflckcehcfaa", sum := "3741a8dff6a946ef7f2f61fa72d4c1f9c05d985ee3052be62070460dddf01672", func := "portmanteau/portmanteaulaw02.BitoutUnlike", spec := "bitoutUnlike", apart := false, narrowed := true }
def BitoutUnlikeUptoSaid : Prop := bitoutUnlikeUptoRow.holds Try.pinned (OpenSpec.upto bitoutUnlikeSpec)

/-- 'portmanteaulaw02.BitoutParts', WHERE WHAT IT READS IS OF BULK AT MOST 1048576: true; the input reads as it did. -/
def bitoutPartsUptoRow : OpenClaim := { program := "ytbhpflckcehcfaa", sum := "3741a8dff6a946ef7f2f61fa72d4c1f9c05d985ee3052be62070460dddf01672", func := "portmanteau/portmanteaulaw02.BitoutParts", spec := "bitoutParts", apart := false, narrowed := true }
def BitoutPartsUptoSaid : Prop := bitoutPartsUptoRow.holds Try.pinned (OpenSpec.upto bitoutPartsSpec)

/-- 'portmanteaulaw02.BitoutRefused', WHERE WHAT IT READS IS OF BULK AT MOST 1048576: true; the input reads as it did. -/
def bitoutRefusedUptoRow : OpenClaim := { program := "ytbhpflckcehcfaa", sum := "3741a8dff6a946ef7f2f61fa72d4c1f9c05d985ee3052be62070460dddf01672", func := "portmanteau/portmanteaulaw02.BitoutRefused", spec := "bitoutRefused", apart := false, narrowed := true }
def BitoutRefusedUptoSaid : Prop := bitoutRefusedUptoRow.holds Try.pinned (OpenSpec.upto bitoutRefusedSpec)

/-- 'portmanteaulaw02.BitoutBytes', WHERE WHAT IT READS IS OF BULK AT MOST 1048576: true; the input reads as it did. -/
def bitoutBytesUptoRow : OpenClaim := { program := "ytbhpflckcehcfaa", sum := "3741a8dff6a946ef7f2f61fa72d4c1f9c05d985ee3052be62070460dddf01672", func := "portmanteau/portmanteaulaw02.BitoutBytes", spec := "bitoutBytes", apart := false, narrowed := true }
def BitoutBytesUptoSaid : Prop := bitoutBytesUptoRow.holds Try.pinned (OpenSpec.upto bitoutBytesSpec)

/-- 'portmanteaulaw02.BitoutOwn', WHERE WHAT IT READS IS OF BULK AT MOST 1048576: true; the input reads as it did. -/
def bitoutOwnUptoRow : OpenClaim := { program := "ytbhpflckcehcfaa", sum := "3741a8dff6a946ef7f2f61fa72d4c1f9c05d985ee3052be62070460dddf01672", func := "portmanteau/portmanteaulaw02.BitoutOwn", spec := "bitoutOwn", apart := false, narrowed := true }
def BitoutOwnUptoSaid : Prop := bitoutOwnUptoRow.holds Try.pinned (OpenSpec.upto bitoutOwnSpec)

/-- 'portmanteaulaw02.BitoutNil', WHERE WHAT IT READS IS OF BULK AT MOST 1048576: true; the input reads as it did. -/
def bitoutNilUptoRow : OpenClaim := { program := "ytbhpflckcehcfaa", sum := "3741a8dff6a946ef7f2f61fa72d4c1f9c05d985ee3052be62070460dddf01672", func := "portmanteau/portmanteaulaw02.BitoutNil", spec := "bitoutNil", apart := false, narrowed := true }
def BitoutNilUptoSaid : Prop := bitoutNilUptoRow.holds Try.pinned (OpenSpec.upto bitoutNilSpec)

end Rows
end Go.Proofs.Ytbhpflckcehcfaa
