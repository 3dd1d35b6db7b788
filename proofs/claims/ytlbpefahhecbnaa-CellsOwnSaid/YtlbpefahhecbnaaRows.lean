/-
  No cell of these rows narrows 'for every input' (looked for: loops, veiled, ifaces, maps, wideKeys, modest, calm, conditions, laid).
  DERIVED. THE GIVEN ROWS OF THIS SEAT. 8 by the template 'for every input the law returns true; each argument reads behind the call as it read before'; 0 by the template 'total and deterministic' (their statements: YtlbpefahhecbnaaTotals.lean).
  GIVEN WITH THE SEED: the statements are not yours to turn. If you find one false, say at which input.
  Laid BY PROGRAM, IN A SANDBOX (cutbox-rows.mjs): the forced cells as the released guide's own fill.sh prints them over the translation 12eed2646119e115… (all of the seat's roots in one cut). By AI agents, Wed Nov 11 2026. No macro, syntax, notation, axiom, sorry.
-/
import Derived.Test.YtlbpefahhecbnaaChecked
import GoSem.Claim
import GoSem.ClaimJoined
import GoSem.ClaimMapViews
import Derived.JoinedTies
import Derived.KernelRfl
namespace Go.Proofs.Ytlbpefahhecbnaa
/- THE CELL 'sum', in the pinned program and in every row, IS THE sha256 OF THE DUMP (.gsa) THAT YtlbpefahhecbnaaProg.lean LOADS. Nothing in Lean hashes anything: it is a label: what it is worth is what the hold of that sum in a sandbox is worth. -/
noncomputable def Try.pinned : Pinned := { name := "ytlbpefahhecbnaa", sum := "12eed2646119e115170f749817373cff95cfd0a254351cdf9fc4b4232baabd10", checked := Try.checked }
namespace Rows
def none {H : Type} : Left H := { results := [], args := [] }

/-- 'portmanteaulaw09.CellsTell': WHATEVER THE INPUT: true; the input reads as it did. -/
def cellsTellSpec : ChangeSpec := { name := "cellsTell", fn := fun _ => fun
  | [d] => { results := [.lit (.bool true)], args := [d] }
  | _ => none }
def cellsTellRow : OpenClaim := { program := "ytlbpefahhecbnaa", sum := "12eed2646119e115170f749817373cff95cfd0a254351cdf9fc4b4232baabd10", func := "portmanteau/portmanteaulaw09.CellsTell", spec := "cellsTell", unfollowed := true, recurses := true, apart := false }
def CellsTellSaid : Prop := cellsTellRow.holds Try.pinned (OpenSpec.ofChange cellsTellSpec)

/-- ITS FALSE NEIGHBOUR: 'it returns false'. Refute it at one input. -/
def cellsTellWrong : ChangeSpec := { name := "cellsTell", fn := fun _ => fun
  | [d] => { results := [.lit (.bool false)], args := [d] }
  | _ => none }
def CellsTellWrongFalsely : Prop := cellsTellRow.holds Try.pinned (OpenSpec.ofChange cellsTellWrong)

/-- 'portmanteaulaw09.CellsBits': WHATEVER THE INPUT: true; the input reads as it did. -/
def cellsBitsSpec : ChangeSpec := { name := "cellsBits", fn := fun _ => fun
  | [d] => { results := [.lit (.bool true)], args := [d] }
  | _ => none }
def cellsBitsRow : OpenClaim := { program := "ytlbpefahhecbnaa", sum := "12eed2646119e115170f749817373cff95cfd0a254351cdf9fc4b4232baabd10", func := "portmanteau/portmanteaulaw09.CellsBits", spec := "cellsBits", unfollowed := true, recurses := true, apart := false }
def CellsBitsSaid : Prop := cellsBitsRow.holds Try.pinned (OpenSpec.ofChange cellsBitsSpec)

/-- ITS FALSE NEIGHBOUR: 'it returns false'. Refute it at one input. -/
def cellsBitsWrong : ChangeSpec := { name := "cellsBits", fn := fun _ => fun
  | [d] => { results := [.lit (.bool false)], args := [d] }
  | _ => none }
def CellsBitsWrongFalsely : Prop := cellsBitsRow.holds Try.pinned (OpenSpec.ofChange cellsBitsWrong)

/-- 'portmanteaulaw09.CellsSymbols': WHATEVER THE INPUT: true; the input reads as it did. -/
def cellsSymbolsSpec : ChangeSpec := { name := "cellsSymbols", fn := fun _ => fun
  | [d] => { results := [.lit (.bool true)], args := [d] }
  | _ => none }
def cellsSymbolsRow : OpenClaim := { program := "ytlbpefahhecbnaa", sum := "12eed2646119e115170f749817373cff95cfd0a254351cdf9fc4b4232baabd10", func := "portmanteau/portmanteaulaw09.CellsSymbols", spec := "cellsSymbols", unfollowed := true, recurses := true, apart := false }
def CellsSymbolsSaid : Prop := cellsSymbolsRow.holds Try.pinned (OpenSpec.ofChange cellsSymbolsSpec)

/-- ITS FALSE NEIGHBOUR: 'it returns false'. Refute it at one input. -/
def cellsSymbolsWrong : ChangeSpec := { name := "cellsSymbols", fn := fun _ => fun
  | [d] => { results := [.lit (.bool false)], args := [d] }
  | _ => none }
def CellsSymbolsWrongFalsely : Prop := cellsSymbolsRow.holds Try.pinned (OpenSpec.ofChange cellsSymbolsWrong)

/-- 'portmanteaulaw09.CellsNext': WHATEVER THE INPUT: true; the input reads as it did. -/
def cellsNextSpec : ChangeSpec := { name := "cellsNext", fn := fun _ => fun
  | [d1, d2] => { results := [.lit (.bool true)], args := [d1, d2] }
  | _ => none }
def cellsNextRow : OpenClaim := { program := "ytlbpefahhecbnaa", sum := "12eed2646119e115170f749817373cff95cfd0a254351cdf9fc4b4232baabd10", func := "portmanteau/portmanteaulaw09.CellsNext", spec := "cellsNext", unfollowed := true, recurses := true, apart := false }
def CellsNextSaid : Prop := cellsNextRow.holds Try.pinned (OpenSpec.ofChange cellsNextSpec)

/-- ITS FALSE NEIGHBOUR: 'it returns false'. Refute it at one input. -/
def cellsNextWrong : ChangeSpec := { name := "cellsNext", fn := fun _ => fun
  | [d1, d2] => { results := [.lit (.bool false)], args := [d1, d2] }
  | _ => none }
def CellsNextWrongFalsely : Prop := cellsNextRow.holds Try.pinned (OpenSpec.ofChange cellsNextWrong)

/-- 'portmanteaulaw09.CellsOne': WHATEVER THE INPUT: true; the input reads as it did. -/
def cellsOneSpec : ChangeSpec := { name := "cellsOne", fn := fun _ => fun
  | [d] => { results := [.lit (.bool true)], args := [d] }
  | _ => none }
def cellsOneRow : OpenClaim := { program := "ytlbpefahhecbnaa", sum := "12eed2646119e115170f749817373cff95cfd0a254351cdf9fc4b4232baabd10", func := "portmanteau/portmanteaulaw09.CellsOne", spec := "cellsOne", unfollowed := true, recurses := true, apart := false }
def CellsOneSaid : Prop := cellsOneRow.holds Try.pinned (OpenSpec.ofChange cellsOneSpec)

/-- ITS FALSE NEIGHBOUR: 'it returns false'. Refute it at one input. -/
def cellsOneWrong : ChangeSpec := { name := "cellsOne", fn := fun _ => fun
  | [d] => { results := [.lit (.bool false)], args := [d] }
  | _ => none }
def CellsOneWrongFalsely : Prop := cellsOneRow.holds Try.pinned (OpenSpec.ofChange cellsOneWrong)

/-- 'portmanteaulaw09.CellsOwn': WHATEVER THE INPUT: true; the input reads as it did. -/
def cellsOwnSpec : ChangeSpec := { name := "cellsOwn", fn := fun _ => fun
  | [d1, d2] => { results := [.lit (.bool true)], args := [d1, d2] }
  | _ => none }
def cellsOwnRow : OpenClaim := { program := "ytlbpefahhecbnaa", sum := "12eed2646119e115170f749817373cff95cfd0a254351cdf9fc4b4232baabd10", func := "portmanteau/portmanteaulaw09.CellsOwn", spec := "cellsOwn", unfollowed := true, recurses := true, apart := false }
def CellsOwnSaid : Prop := cellsOwnRow.holds Try.pinned (OpenSpec.ofChange cellsOwnSpec)

/-- ITS FALSE NEIGHBOUR: 'it returns false'. Refute it at one input. -/
def cellsOwnWrong : ChangeSpec := { name := "cellsOwn", fn := fun _ => fun
  | [d1, d2] => { results := [.lit (.bool false)], args := [d1, d2] }
  | _ => none }
def CellsOwnWrongFalsely : Prop := cellsOwnRow.holds Try.pinned (OpenSpec.ofChange cellsOwnWrong)

/-- 'portmanteaulaw09.CellsCover': WHATEVER THE INPUT: true; the input reads as it did. -/
def cellsCoverSpec : ChangeSpec := { name := "cellsCover", fn := fun _ => fun
  | [d1, d2] => { results := [.lit (.bool true)], args := [d1, d2] }
  | _ => none }
def cellsCoverRow : OpenClaim := { program := "ytlbpefahhecbnaa", sum := "12eed2646119e115170f749817373cff95cfd0a254351cdf9fc4b4232baabd10", func := "portmanteau/portmanteaulaw09.CellsCover", spec := "cellsCover", unfollowed := true, recurses := true, apart := false }
def CellsCoverSaid : Prop := cellsCoverRow.holds Try.pinned (OpenSpec.ofChange cellsCoverSpec)

/-- ITS FALSE NEIGHBOUR: 'it returns false'. Refute it at one input. -/
def cellsCoverWrong : ChangeSpec := { name := "cellsCover", fn := fun _ => fun
  | [d1, d2] => { results := [.lit (.bool false)], args := [d1, d2] }
  | _ => none }
def CellsCoverWrongFalsely : Prop := cellsCoverRow.holds Try.pinned (OpenSpec.ofChange cellsCoverWrong)

/-- 'portmanteaulaw09.CellsSpans': WHATEVER THE INPUT: true; the input reads as it did. -/
def cellsSpansSpec : ChangeSpec := { name := "cellsSpans", fn := fun _ => fun
  | [d1, d2] => { results := [.lit (.bool true)], args := [d1, d2] }
  | _ => none }
def cellsSpansRow : OpenClaim := { program := "ytlbpefahhecbnaa", sum := "12eed2646119e115170f749817373cff95cfd0a254351cdf9fc4b4232baabd10", func := "portmanteau/portmanteaulaw09.CellsSpans", spec := "cellsSpans", unfollowed := true, recurses := true, apart := false }
def CellsSpansSaid : Prop := cellsSpansRow.holds Try.pinned (OpenSpec.ofChange cellsSpansSpec)

/-- ITS FALSE NEIGHBOUR: 'it returns false'. Refute it at one input. -/
def cellsSpansWrong : ChangeSpec := { name := "cellsSpans", fn := fun _ => fun
  | [d1, d2] => { results := [.lit (.bool false)], args := [d1, d2] }
  | _ => none }
def CellsSpansWrongFalsely : Prop := cellsSpansRow.holds Try.pinned (OpenSpec.ofChange cellsSpansWrong)

/- THE SECOND FORM. 'bulk': how many values and letters a reading holds, each counted each time it is reached (what is shared counts as often as it is met; a slice's spare places count too). A statement '..UptoSaid' is the law's where the arguments, and the package variables that the reading takes, are together of bulk at most 1048576: NARROWER than '..Said'. Prove '..Said' where nothing that the law and all that it calls make is longer than what came in: it says more and counts as full. Else prove '..UptoSaid'. A law counts once. -/
mutual
def uptoBulk {H : Type} : DataW H → Nat
  | .lit (.string bytes) => bytes.length + 1
  | .lit _ => 1
  | .nil => 1
  | .ptr d => uptoBulk d + 1
  | .slice elems spare => uptoBulkAll elems + uptoBulkAll spare + 1
  | .agg parts => uptoBulkAll parts + 1
  | .iface _ d => uptoBulk d + 1
  | .map entries => uptoBulkEntries entries + 1
  | .held _ => 1
def uptoBulkAll {H : Type} : List (DataW H) → Nat
  | [] => 0
  | d :: r => uptoBulk d + uptoBulkAll r
def uptoBulkEntries {H : Type} : List (Lit × DataW H) → Nat
  | [] => 0
  | x :: r => uptoBulkEntry x + uptoBulkEntries r
def uptoBulkEntry {H : Type} : Lit × DataW H → Nat
  | (.string bytes, d) => bytes.length + uptoBulk d + 1
  | (_, d) => uptoBulk d + 1
 end
def uptoSmall : (H : Type) → List (DataW H) → Bool := fun _ ds => decide (uptoBulkAll ds ≤ 1048576)
def OpenSpec.upto (s : _root_.Go.ChangeSpec) : _root_.Go.OpenSpec := { _root_.Go.OpenSpec.ofChange s with cond := some uptoSmall }

/-- 'portmanteaulaw09.CellsTell', WHERE WHAT IT READS IS OF BULK AT MOST 1048576: true; the input reads as it did. -/
def cellsTellUptoRow : OpenClaim := { program := "ytlbpefahhecbnaa", sum := "12eed2646119e115170f749817373cff95cfd0a254351cdf9fc4b4232baabd10", func := "portmanteau/portmanteaulaw09.CellsTell", spec := "cellsTell", unfollowed := true, recurses := true, apart := false, narrowed := true }
def CellsTellUptoSaid : Prop := cellsTellUptoRow.holds Try.pinned (OpenSpec.upto cellsTellSpec)

/-- 'portmanteaulaw09.CellsBits', WHERE WHAT IT READS IS OF BULK AT MOST 1048576: true; the input reads as it did. -/
def cellsBitsUptoRow : OpenClaim := { program := "ytlbpefahhecbnaa", sum := "12eed2646119e115170f749817373cff95cfd0a254351cdf9fc4b4232baabd10", func := "portmanteau/portmanteaulaw09.CellsBits", spec := "cellsBits", unfollowed := true, recurses := true, apart := false, narrowed := true }
def CellsBitsUptoSaid : Prop := cellsBitsUptoRow.holds Try.pinned (OpenSpec.upto cellsBitsSpec)

/-- 'portmanteaulaw09.CellsSymbols', WHERE WHAT IT READS IS OF BULK AT MOST 1048576: true; the input reads as it did. -/
def cellsSymbolsUptoRow : OpenClaim := { program := "ytlbpefahhecbnaa", sum := "12eed2646119e115170f749817373cff95cfd0a254351cdf9fc4b4232baabd10", func := "portmanteau/portmanteaulaw09.CellsSymbols", spec := "cellsSymbols", unfollowed := true, recurses := true, apart := false, narrowed := true }
def CellsSymbolsUptoSaid : Prop := cellsSymbolsUptoRow.holds Try.pinned (OpenSpec.upto cellsSymbolsSpec)

/-- 'portmanteaulaw09.CellsNext', WHERE WHAT IT READS IS OF BULK AT MOST 1048576: true; the input reads as it did. -/
def cellsNextUptoRow : OpenClaim := { program := "ytlbpefahhecbnaa", sum := "12eed2646119e115170f749817373cff95cfd0a254351cdf9fc4b4232baabd10", func := "portmanteau/portmanteaulaw09.CellsNext", spec := "cellsNext", unfollowed := true, recurses := true, apart := false, narrowed := true }
def CellsNextUptoSaid : Prop := cellsNextUptoRow.holds Try.pinned (OpenSpec.upto cellsNextSpec)

/-- 'portmanteaulaw09.CellsOne', WHERE WHAT IT READS IS OF BULK AT MOST 1048576: true; the input reads as it did. -/
def cellsOneUptoRow : OpenClaim := { program := "ytlbpefahhecbnaa", sum := "12eed2646119e115170f749817373cff95cfd0a254351cdf9fc4b4232baabd10", func := "portmanteau/portmanteaulaw09.CellsOne", spec := "cellsOne", unfollowed := true, recurses := true, apart := false, narrowed := true }
def CellsOneUptoSaid : Prop := cellsOneUptoRow.holds Try.pinned (OpenSpec.upto cellsOneSpec)

/-- 'portmanteaulaw09.CellsOwn', WHERE WHAT IT READS IS OF BULK AT MOST 1048576: true; the input reads as it did. -/
def cellsOwnUptoRow : OpenClaim := { program := "ytlbpefahhecbnaa", sum := "12eed2646119e115170f749817373cff95cfd0a254351cdf9fc4b4232baabd10", func := "portmanteau/portmanteaulaw09.CellsOwn", spec := "cellsOwn", unfollowed := true, recurses := true, apart := false, narrowed := true }
def CellsOwnUptoSaid : Prop := cellsOwnUptoRow.holds Try.pinned (OpenSpec.upto cellsOwnSpec)

/-- 'portmanteaulaw09.CellsCover', WHERE WHAT IT READS IS OF BULK AT MOST 1048576: true; the input reads as it did. -/
def cellsCoverUptoRow : OpenClaim := { program := "ytlbpefahhecbnaa", sum := "12eed2646119e115170f749817373cff95cfd0a254351cdf9fc4b4232baabd10", func := "portmanteau/portmanteaulaw09.CellsCover", spec := "cellsCover", unfollowed := true, recurses := true, apart := false, narrowed := true }
def CellsCoverUptoSaid : Prop := cellsCoverUptoRow.holds Try.pinned (OpenSpec.upto cellsCoverSpec)

/-- 'portmanteaulaw09.CellsSpans', WHERE WHAT IT READS IS OF BULK AT MOST 1048576: true; the input reads as it did. -/
def cellsSpansUptoRow : OpenClaim := { program := "ytlbpefahhecbnaa", sum := "12eed2646119e115170f749817373cff95cfd0a254351cdf9fc4b4232baabd10", func := "portmanteau/portmanteaulaw09.CellsSpans", spec := "cellsSpans", unfollowed := true, recurses := true, apart := false, narrowed := true }
def CellsSpansUptoSaid : Prop := cellsSpansUptoRow.holds Try.pinned (OpenSpec.upto cellsSpansSpec)

end Rows
end Go.Proofs.Ytlbpefahhecbnaa
