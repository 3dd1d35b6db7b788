/-
  No cell of these rows narrows 'for every input' (looked for: loops, veiled, ifaces, maps, wideKeys, modest, calm, conditions, laid).
  DERIVED. THE GIVEN ROWS OF THIS SEAT. 8 by the template 'for every input the law returns true; each argument reads behind the call as it read before'; 0 by the template 'total and deterministic' (their statements: YtifolinoadllbaaTotals.lean).
  GIVEN WITH THE SEED: the statements are not yours to turn. If you find one false, say at which input.
  Laid BY PROGRAM, IN A SANDBOX (cutbox-rows.mjs): the forced cells as the released guide's own fill.sh prints them over the translation 5be78b2a4cb97a33… (all of the seat's roots in one cut). By AI agents, Wed Nov 11 2026. No macro, syntax, notation, axiom, sorry.
-/
import Derived.Test.YtifolinoadllbaaChecked
import GoSem.Claim
import GoSem.ClaimJoined
import GoSem.ClaimMapViews
import Derived.JoinedTies
import Derived.KernelRfl
namespace Go.Proofs.Ytifolinoadllbaa
/- THE CELL 'sum', in the pinned program and in every row, IS THE sha256 OF THE DUMP (.gsa) THAT YtifolinoadllbaaProg.lean LOADS. Nothing in Lean hashes anything: it is a label: what it is worth is what the hold of that sum in a sandbox is worth. -/
noncomputable def Try.pinned : Pinned := { name := "ytifolinoadllbaa", sum := "5be78b2a4cb97a33a51af7428f5c2268e51943c695a9b99d6d41e9475ce100c8", checked := Try.checked }
namespace Rows
def none {H : Type} : Left H := { results := [], args := [] }

/-- 'portmanteaulaw03.BitinBackward': WHATEVER THE INPUT: true; the input reads as it did. -/
def bitinBackwardSpec : ChangeSpec := { name := "bitinBackward", fn := fun _ => fun
  | [d1, d2] => { results := [.lit (.bool true)], args := [d1, d2] }
  | _ => none }
def bitinBackwardRow : OpenClaim := { program := "ytifolinoadllbaa", sum := "5be78b2a4cb97a33a51af7428f5c2268e51943c695a9b99d6d41e9475ce100c8", func := "portmanteau/portmanteaulaw03.BitinBackward", spec := "bitinBackward", unfollowed := true, recurses := true, apart := false }
def BitinBackwardSaid : Prop := bitinBackwardRow.holds Try.pinned (OpenSpec.ofChange bitinBackwardSpec)

/-- ITS FALSE NEIGHBOUR: 'it returns false'. Refute it at one input. -/
def bitinBackwardWrong : ChangeSpec := { name := "bitinBackward", fn := fun _ => fun
  | [d1, d2] => { results := [.lit (.bool false)], args := [d1, d2] }
  | _ => none }
def BitinBackwardWrongFalsely : Prop := bitinBackwardRow.holds Try.pinned (OpenSpec.ofChange bitinBackwardWrong)

/-- 'portmanteaulaw03.BitinParts': WHATEVER THE INPUT: true; the input reads as it did. -/
def bitinPartsSpec : ChangeSpec := { name := "bitinParts", fn := fun _ => fun
  | [d1, d2, d3] => { results := [.lit (.bool true)], args := [d1, d2, d3] }
  | _ => none }
def bitinPartsRow : OpenClaim := { program := "ytifolinoadllbaa", sum := "5be78b2a4cb97a33a51af7428f5c2268e51943c695a9b99d6d41e9475ce100c8", func := "portmanteau/portmanteaulaw03.BitinParts", spec := "bitinParts", unfollowed := true, recurses := true, apart := false }
def BitinPartsSaid : Prop := bitinPartsRow.holds Try.pinned (OpenSpec.ofChange bitinPartsSpec)

/-- ITS FALSE NEIGHBOUR: 'it returns false'. Refute it at one input. -/
def bitinPartsWrong : ChangeSpec := { name := "bitinParts", fn := fun _ => fun
  | [d1, d2, d3] => { results := [.lit (.bool false)], args := [d1, d2, d3] }
  | _ => none }
def BitinPartsWrongFalsely : Prop := bitinPartsRow.holds Try.pinned (OpenSpec.ofChange bitinPartsWrong)

/-- 'portmanteaulaw03.BitinPeeks': WHATEVER THE INPUT: true; the input reads as it did. -/
def bitinPeeksSpec : ChangeSpec := { name := "bitinPeeks", fn := fun _ => fun
  | [d1, d2, d3] => { results := [.lit (.bool true)], args := [d1, d2, d3] }
  | _ => none }
def bitinPeeksRow : OpenClaim := { program := "ytifolinoadllbaa", sum := "5be78b2a4cb97a33a51af7428f5c2268e51943c695a9b99d6d41e9475ce100c8", func := "portmanteau/portmanteaulaw03.BitinPeeks", spec := "bitinPeeks", unfollowed := true, recurses := true, apart := false }
def BitinPeeksSaid : Prop := bitinPeeksRow.holds Try.pinned (OpenSpec.ofChange bitinPeeksSpec)

/-- ITS FALSE NEIGHBOUR: 'it returns false'. Refute it at one input. -/
def bitinPeeksWrong : ChangeSpec := { name := "bitinPeeks", fn := fun _ => fun
  | [d1, d2, d3] => { results := [.lit (.bool false)], args := [d1, d2, d3] }
  | _ => none }
def BitinPeeksWrongFalsely : Prop := bitinPeeksRow.holds Try.pinned (OpenSpec.ofChange bitinPeeksWrong)

/-- 'portmanteaulaw03.BitinOwn': WHATEVER THE INPUT: true; the input reads as it did. -/
def bitinOwnSpec : ChangeSpec := { name := "bitinOwn", fn := fun _ => fun
  | [d] => { results := [.lit (.bool true)], args := [d] }
  | _ => none }
def bitinOwnRow : OpenClaim := { program := "ytifolinoadllbaa", sum := "5be78b2a4cb97a33a51af7428f5c2268e51943c695a9b99d6d41e9475ce100c8", func := "portmanteau/portmanteaulaw03.BitinOwn", spec := "bitinOwn", unfollowed := true, recurses := true, apart := false }
def BitinOwnSaid : Prop := bitinOwnRow.holds Try.pinned (OpenSpec.ofChange bitinOwnSpec)

/-- ITS FALSE NEIGHBOUR: 'it returns false'. Refute it at one input. -/
def bitinOwnWrong : ChangeSpec := { name := "bitinOwn", fn := fun _ => fun
  | [d] => { results := [.lit (.bool false)], args := [d] }
  | _ => none }
def BitinOwnWrongFalsely : Prop := bitinOwnRow.holds Try.pinned (OpenSpec.ofChange bitinOwnWrong)

/-- 'portmanteaulaw03.BitinForward': WHATEVER THE INPUT: true; the input reads as it did. -/
def bitinForwardSpec : ChangeSpec := { name := "bitinForward", fn := fun _ => fun
  | [d1, d2] => { results := [.lit (.bool true)], args := [d1, d2] }
  | _ => none }
def bitinForwardRow : OpenClaim := { program := "ytifolinoadllbaa", sum := "5be78b2a4cb97a33a51af7428f5c2268e51943c695a9b99d6d41e9475ce100c8", func := "portmanteau/portmanteaulaw03.BitinForward", spec := "bitinForward", unfollowed := true, recurses := true, apart := false }
def BitinForwardSaid : Prop := bitinForwardRow.holds Try.pinned (OpenSpec.ofChange bitinForwardSpec)

/-- ITS FALSE NEIGHBOUR: 'it returns false'. Refute it at one input. -/
def bitinForwardWrong : ChangeSpec := { name := "bitinForward", fn := fun _ => fun
  | [d1, d2] => { results := [.lit (.bool false)], args := [d1, d2] }
  | _ => none }
def BitinForwardWrongFalsely : Prop := bitinForwardRow.holds Try.pinned (OpenSpec.ofChange bitinForwardWrong)

/-- 'portmanteaulaw03.BitinNil': WHATEVER THE INPUT: true; the input reads as it did. -/
def bitinNilSpec : ChangeSpec := { name := "bitinNil", fn := fun _ => fun
  | [d] => { results := [.lit (.bool true)], args := [d] }
  | _ => none }
def bitinNilRow : OpenClaim := { program := "ytifolinoadllbaa", sum := "5be78b2a4cb97a33a51af7428f5c2268e51943c695a9b99d6d41e9475ce100c8", func := "portmanteau/portmanteaulaw03.BitinNil", spec := "bitinNil", unfollowed := true, recurses := true, apart := false }
def BitinNilSaid : Prop := bitinNilRow.holds Try.pinned (OpenSpec.ofChange bitinNilSpec)

/-- ITS FALSE NEIGHBOUR: 'it returns false'. Refute it at one input. -/
def bitinNilWrong : ChangeSpec := { name := "bitinNil", fn := fun _ => fun
  | [d] => { results := [.lit (.bool false)], args := [d] }
  | _ => none }
def BitinNilWrongFalsely : Prop := bitinNilRow.holds Try.pinned (OpenSpec.ofChange bitinNilWrong)

/-- 'portmanteaulaw03.BitinBack': WHATEVER THE INPUT: true; the input reads as it did. -/
def bitinBackSpec : ChangeSpec := { name := "bitinBack", fn := fun _ => fun
  | [d] => { results := [.lit (.bool true)], args := [d] }
  | _ => none }
def bitinBackRow : OpenClaim := { program := "ytifolinoadllbaa", sum := "5be78b2a4cb97a33a51af7428f5c2268e51943c695a9b99d6d41e9475ce100c8", func := "portmanteau/portmanteaulaw03.BitinBack", spec := "bitinBack", unfollowed := true, recurses := true, apart := false }
def BitinBackSaid : Prop := bitinBackRow.holds Try.pinned (OpenSpec.ofChange bitinBackSpec)

/-- ITS FALSE NEIGHBOUR: 'it returns false'. Refute it at one input. -/
def bitinBackWrong : ChangeSpec := { name := "bitinBack", fn := fun _ => fun
  | [d] => { results := [.lit (.bool false)], args := [d] }
  | _ => none }
def BitinBackWrongFalsely : Prop := bitinBackRow.holds Try.pinned (OpenSpec.ofChange bitinBackWrong)

/-- 'portmanteaulaw03.BitinWhole': WHATEVER THE INPUT: true; the input reads as it did. -/
def bitinWholeSpec : ChangeSpec := { name := "bitinWhole", fn := fun _ => fun
  | [d1, d2, d3] => { results := [.lit (.bool true)], args := [d1, d2, d3] }
  | _ => none }
def bitinWholeRow : OpenClaim := { program := "ytifolinoadllbaa", sum := "5be78b2a4cb97a33a51af7428f5c2268e51943c695a9b99d6d41e9475ce100c8", func := "portmanteau/portmanteaulaw03.BitinWhole", spec := "bitinWhole", unfollowed := true, recurses := true, apart := false }
def BitinWholeSaid : Prop := bitinWholeRow.holds Try.pinned (OpenSpec.ofChange bitinWholeSpec)

/-- ITS FALSE NEIGHBOUR: 'it returns false'. Refute it at one input. -/
def bitinWholeWrong : ChangeSpec := { name := "bitinWhole", fn := fun _ => fun
  | [d1, d2, d3] => { results := [.lit (.bool false)], args := [d1, d2, d3] }
  | _ => none }
def BitinWholeWrongFalsely : Prop := bitinWholeRow.holds Try.pinned (OpenSpec.ofChange bitinWholeWrong)

/- THE SECOND FORM. 'bulk': how many values and letters a reading holds, each counted each time it is reached (what is shared counts as often as it is met; a slice's spare places count too). A statement '..UptoSaid' is the law's where the arguments, and the package variables that the reading takes, are together of bulk at most 1048576: NARROWER than '..Said'. Prove '..Said' where nothing that the law and all that it calls make is longer than what came in: it says more and counts as full. Else prove '..UptoSaid'. A law counts once. -/
mutual
def uptoBulk {H : Type} : DataW H → Nat
  | .lit (.string bytes) => bytes.length + 1
  | .lit _ => 1
  | .nil => 1
  | .ptr d => uptoBulk d + 1
  | .slice elems spare => uptoBulkAll elems + uptoBulkAll spare + 1
  | .agg parts => uptoBulkAll parts + 1
  | .iface _ d => uptoBulk d + 1
  | .map entries => uptoBulkEntries entries + 1
  | .held _ => 1
def uptoBulkAll {H : Type} : List (DataW H) → Nat
  | [] => 0
  | d :: r => uptoBulk d + uptoBulkAll r
def uptoBulkEntries {H : Type} : List (Lit × DataW H) → Nat
  | [] => 0
  | x :: r => uptoBulkEntry x + uptoBulkEntries r
def uptoBulkEntry {H : Type} : Lit × DataW H → Nat
  | (.string bytes, d) => bytes.length + uptoBulk d + 1
  | (_, d) => uptoBulk d + 1
 end
def uptoSmall : (H : Type) → List (DataW H) → Bool := fun _ ds => decide (uptoBulkAll ds ≤ 1048576)
def OpenSpec.upto (s : _root_.Go.ChangeSpec) : _root_.Go.OpenSpec := { _root_.Go.OpenSpec.ofChange s with cond := some uptoSmall }

/-- 'portmanteaulaw03.BitinBackward', WHERE WHAT IT READS IS OF BULK AT MOST 1048576: true; the input reads as it did. -/
def bitinBackwardUptoRow : OpenClaim := { program := "ytifolinoadllbaa", sum := "5be78b2a4cb97a33a51af7428f5c2268e51943c695a9b99d6d41e9475ce100c8", func := "portmanteau/portmanteaulaw03.BitinBackward", spec := "bitinBackward", unfollowed := true, recurses := true, apart := false, narrowed := true }
def BitinBackwardUptoSaid : Prop := bitinBackwardUptoRow.holds Try.pinned (OpenSpec.upto bitinBackwardSpec)

/-- 'portmanteaulaw03.BitinParts', WHERE WHAT IT READS IS OF BULK AT MOST 1048576: true; the input reads as it did. -/
def bitinPartsUptoRow : OpenClaim := { program := "ytifolinoadllbaa", sum := "5be78b2a4cb97a33a51af7428f5c2268e51943c695a9b99d6d41e9475ce100c8", func := "portmanteau/portmanteaulaw03.BitinParts", spec := "bitinParts", unfollowed := true, recurses := true, apart := false, narrowed := true }
def BitinPartsUptoSaid : Prop := bitinPartsUptoRow.holds Try.pinned (OpenSpec.upto bitinPartsSpec)

/-- 'portmanteaulaw03.BitinPeeks', WHERE WHAT IT READS IS OF BULK AT MOST 1048576: true; the input reads as it did. -/
def bitinPeeksUptoRow : OpenClaim := { program := "ytifolinoadllbaa", sum := "5be78b2a4cb97a33a51af7428f5c2268e51943c695a9b99d6d41e9475ce100c8", func := "portmanteau/portmanteaulaw03.BitinPeeks", spec := "bitinPeeks", unfollowed := true, recurses := true, apart := false, narrowed := true }
def BitinPeeksUptoSaid : Prop := bitinPeeksUptoRow.holds Try.pinned (OpenSpec.upto bitinPeeksSpec)

/-- 'portmanteaulaw03.BitinOwn', WHERE WHAT IT READS IS OF BULK AT MOST 1048576: true; the input reads as it did. -/
def bitinOwnUptoRow : OpenClaim := { program := "ytifolinoadllbaa", sum := "5be78b2a4cb97a33a51af7428f5c2268e51943c695a9b99d6d41e9475ce100c8", func := "portmanteau/portmanteaulaw03.BitinOwn", spec := "bitinOwn", unfollowed := true, recurses := true, apart := false, narrowed := true }
def BitinOwnUptoSaid : Prop := bitinOwnUptoRow.holds Try.pinned (OpenSpec.upto bitinOwnSpec)

/-- 'portmanteaulaw03.BitinForward', WHERE WHAT IT READS IS OF BULK AT MOST 1048576: true; the input reads as it did. -/
def bitinForwardUptoRow : OpenClaim := { program := "ytifolinoadllbaa", sum := "5be78b2a4cb97a33a51af7428f5c2268e51943c695a9b99d6d41e9475ce100c8", func := "portmanteau/portmanteaulaw03.BitinForward", spec := "bitinForward", unfollowed := true, recurses := true, apart := false, narrowed := true }
def BitinForwardUptoSaid : Prop := bitinForwardUptoRow.holds Try.pinned (OpenSpec.upto bitinForwardSpec)

/-- 'portmanteaulaw03.BitinNil', WHERE WHAT IT READS IS OF BULK AT MOST 1048576: true; the input reads as it did. -/
def bitinNilUptoRow : OpenClaim := { program := "ytifolinoadllbaa", sum := "5be78b2a4cb97a33a51af7428f5c2268e51943c695a9b99d6d41e9475ce100c8", func := "portmanteau/portmanteaulaw03.BitinNil", spec := "bitinNil", unfollowed := true, recurses := true, apart := false, narrowed := true }
def BitinNilUptoSaid : Prop := bitinNilUptoRow.holds Try.pinned (OpenSpec.upto bitinNilSpec)

/-- 'portmanteaulaw03.BitinBack', WHERE WHAT IT READS IS OF BULK AT MOST 1048576: true; the input reads as it did. -/
def bitinBackUptoRow : OpenClaim := { program := "ytifolinoadllbaa", sum := "5be78b2a4cb97a33a51af7428f5c2268e51943c695a9b99d6d41e9475ce100c8", func := "portmanteau/portmanteaulaw03.BitinBack", spec := "bitinBack", unfollowed := true, recurses := true, apart := false, narrowed := true }
def BitinBackUptoSaid : Prop := bitinBackUptoRow.holds Try.pinned (OpenSpec.upto bitinBackSpec)

/-- 'portmanteaulaw03.BitinWhole', WHERE WHAT IT READS IS OF BULK AT MOST 1048576: true; the input reads as it did. -/
def bitinWholeUptoRow : OpenClaim := { program := "ytifolinoadllbaa", sum := "5be78b2a4cb97a33a51af7428f5c2268e51943c695a9b99d6d41e9475ce100c8", func := "portmanteau/portmanteaulaw03.BitinWhole", spec := "bitinWhole", unfollowed := true, recurses := true, apart := false, narrowed := true }
def BitinWholeUptoSaid : Prop := bitinWholeUptoRow.holds Try.pinned (OpenSpec.upto bitinWholeSpec)

end Rows
end Go.Proofs.Ytifolinoadllbaa
