/-
  No cell of these rows narrows 'for every input' (looked for: loops, veiled, ifaces, maps, wideKeys, modest, calm, conditions, laid).
  DERIVED. THE GIVEN ROWS OF THIS SEAT. 9 by the template 'for every input the law returns true; each argument reads behind the call as it read before'; 0 by the template 'total and deterministic' (their statements: YtefaihockgebeaaTotals.lean).
  GIVEN WITH THE SEED: the statements are not yours to turn. If you find one false, say at which input.
  Laid BY PROGRAM, IN A SANDBOX (cutbox-rows.mjs): the forced cells as the released guide's own fill.sh prints them over the translation 8c6dad7f05b21422… (all of the seat's roots in one cut). By AI agents, Wed Nov 11 2026. No macro, syntax, notation, axiom, sorry.
-/
import Derived.Test.YtefaihockgebeaaChecked
import GoSem.Claim
import GoSem.ClaimJoined
import GoSem.ClaimMapViews
import Derived.JoinedTies
import Derived.KernelRfl
namespace Go.Proofs.Ytefaihockgebeaa
/- THE CELL 'sum', in the pinned program and in every row, IS THE sha256 OF THE DUMP (.gsa) THAT YtefaihockgebeaaProg.lean LOADS. Nothing in Lean hashes anything: it is a label: what it is worth is what the hold of that sum in a sandbox is worth. -/
noncomputable def Try.pinned : Pinned := { name := "ytefaihockgebeaa", sum := "8c6dad7f05b2142281d43283fdb4cc7b8dc4c5456211f70963b5b1009e770d1b", checked := Try.checked }
namespace Rows
def none {H : Type} : Left H := { results := [], args := [] }

/-- 'corrodylaw21.GraphOf': WHATEVER THE INPUT: true; the input reads as it did. -/
def graphOfSpec : ChangeSpec := { name := "graphOf", fn := fun _ => fun
  | [d1, d2, d3] => { results := [.lit (.bool true)], args := [d1, d2, d3] }
  | _ => none }
def graphOfRow : OpenClaim := { program := "ytefaihockgebeaa", sum := "8c6dad7f05b2142281d43283fdb4cc7b8dc4c5456211f70963b5b1009e770d1b", func := "corrody/corrodylaw21.GraphOf", spec := "graphOf", unfollowed := true, recurses := true, apart := false }
def GraphOfSaid : Prop := graphOfRow.holds Try.pinned (OpenSpec.ofChange graphOfSpec)

/-- ITS FALSE NEIGHBOUR: 'it returns false'. Refute it at one input. -/
def graphOfWrong : ChangeSpec := { name := "graphOf", fn := fun _ => fun
  | [d1, d2, d3] => { results := [.lit (.bool false)], args := [d1, d2, d3] }
  | _ => none }
def GraphOfWrongFalsely : Prop := graphOfRow.holds Try.pinned (OpenSpec.ofChange graphOfWrong)

/-- 'corrodylaw21.GraphOrder': WHATEVER THE INPUT: true; the input reads as it did. -/
def graphOrderSpec : ChangeSpec := { name := "graphOrder", fn := fun _ => fun
  | [d1, d2, d3, d4] => { results := [.lit (.bool true)], args := [d1, d2, d3, d4] }
  | _ => none }
def graphOrderRow : OpenClaim := { program := "ytefaihockgebeaa", sum := "8c6dad7f05b2142281d43283fdb4cc7b8dc4c5456211f70963b5b1009e770d1b", func := "corrody/corrodylaw21.GraphOrder", spec := "graphOrder", unfollowed := true, recurses := true, apart := false }
def GraphOrderSaid : Prop := graphOrderRow.holds Try.pinned (OpenSpec.ofChange graphOrderSpec)

/-- ITS FALSE NEIGHBOUR: 'it returns false'. Refute it at one input. -/
def graphOrderWrong : ChangeSpec := { name := "graphOrder", fn := fun _ => fun
  | [d1, d2, d3, d4] => { results := [.lit (.bool false)], args := [d1, d2, d3, d4] }
  | _ => none }
def GraphOrderWrongFalsely : Prop := graphOrderRow.holds Try.pinned (OpenSpec.ofChange graphOrderWrong)

/-- 'corrodylaw21.GraphLinks': WHATEVER THE INPUT: true; the input reads as it did. -/
def graphLinksSpec : ChangeSpec := { name := "graphLinks", fn := fun _ => fun
  | [d1, d2] => { results := [.lit (.bool true)], args := [d1, d2] }
  | _ => none }
def graphLinksRow : OpenClaim := { program := "ytefaihockgebeaa", sum := "8c6dad7f05b2142281d43283fdb4cc7b8dc4c5456211f70963b5b1009e770d1b", func := "corrody/corrodylaw21.GraphLinks", spec := "graphLinks", unfollowed := true, recurses := true, apart := false }
def GraphLinksSaid : Prop := graphLinksRow.holds Try.pinned (OpenSpec.ofChange graphLinksSpec)

/-- ITS FALSE NEIGHBOUR: 'it returns false'. Refute it at one input. -/
def graphLinksWrong : ChangeSpec := { name := "graphLinks", fn := fun _ => fun
  | [d1, d2] => { results := [.lit (.bool false)], args := [d1, d2] }
  | _ => none }
def GraphLinksWrongFalsely : Prop := graphLinksRow.holds Try.pinned (OpenSpec.ofChange graphLinksWrong)

/-- 'corrodylaw07.SpansLaws': WHATEVER THE INPUT: true; the input reads as it did. -/
def spansLawsSpec : ChangeSpec := { name := "spansLaws", fn := fun _ => fun
  | [d1, d2, d3, d4] => { results := [.lit (.bool true)], args := [d1, d2, d3, d4] }
  | _ => none }
def spansLawsRow : OpenClaim := { program := "ytefaihockgebeaa", sum := "8c6dad7f05b2142281d43283fdb4cc7b8dc4c5456211f70963b5b1009e770d1b", func := "corrody/corrodylaw07.SpansLaws", spec := "spansLaws", unfollowed := true, recurses := true, apart := false }
def SpansLawsSaid : Prop := spansLawsRow.holds Try.pinned (OpenSpec.ofChange spansLawsSpec)

/-- ITS FALSE NEIGHBOUR: 'it returns false'. Refute it at one input. -/
def spansLawsWrong : ChangeSpec := { name := "spansLaws", fn := fun _ => fun
  | [d1, d2, d3, d4] => { results := [.lit (.bool false)], args := [d1, d2, d3, d4] }
  | _ => none }
def SpansLawsWrongFalsely : Prop := spansLawsRow.holds Try.pinned (OpenSpec.ofChange spansLawsWrong)

/-- 'corrodylaw07.SpansDays': WHATEVER THE INPUT: true; the input reads as it did. -/
def spansDaysSpec : ChangeSpec := { name := "spansDays", fn := fun _ => fun
  | [d1, d2, d3, d4] => { results := [.lit (.bool true)], args := [d1, d2, d3, d4] }
  | _ => none }
def spansDaysRow : OpenClaim := { program := "ytefaihockgebeaa", sum := "8c6dad7f05b2142281d43283fdb4cc7b8dc4c5456211f70963b5b1009e770d1b", func := "corrody/corrodylaw07.SpansDays", spec := "spansDays", unfollowed := true, recurses := true, apart := false }
def SpansDaysSaid : Prop := spansDaysRow.holds Try.pinned (OpenSpec.ofChange spansDaysSpec)

/-- ITS FALSE NEIGHBOUR: 'it returns false'. Refute it at one input. -/
def spansDaysWrong : ChangeSpec := { name := "spansDays", fn := fun _ => fun
  | [d1, d2, d3, d4] => { results := [.lit (.bool false)], args := [d1, d2, d3, d4] }
  | _ => none }
def SpansDaysWrongFalsely : Prop := spansDaysRow.holds Try.pinned (OpenSpec.ofChange spansDaysWrong)

/-- 'corrodylaw07.SpansSets': WHATEVER THE INPUT: true; the input reads as it did. -/
def spansSetsSpec : ChangeSpec := { name := "spansSets", fn := fun _ => fun
  | [d1, d2, d3, d4] => { results := [.lit (.bool true)], args := [d1, d2, d3, d4] }
  | _ => none }
def spansSetsRow : OpenClaim := { program := "ytefaihockgebeaa", sum := "8c6dad7f05b2142281d43283fdb4cc7b8dc4c5456211f70963b5b1009e770d1b", func := "corrody/corrodylaw07.SpansSets", spec := "spansSets", unfollowed := true, recurses := true, apart := false }
def SpansSetsSaid : Prop := spansSetsRow.holds Try.pinned (OpenSpec.ofChange spansSetsSpec)

/-- ITS FALSE NEIGHBOUR: 'it returns false'. Refute it at one input. -/
def spansSetsWrong : ChangeSpec := { name := "spansSets", fn := fun _ => fun
  | [d1, d2, d3, d4] => { results := [.lit (.bool false)], args := [d1, d2, d3, d4] }
  | _ => none }
def SpansSetsWrongFalsely : Prop := spansSetsRow.holds Try.pinned (OpenSpec.ofChange spansSetsWrong)

/-- 'corrodylaw28.LocksTrue': WHATEVER THE INPUT: true; the input reads as it did. -/
def locksTrueSpec : ChangeSpec := { name := "locksTrue", fn := fun _ => fun
  | [d1, d2] => { results := [.lit (.bool true)], args := [d1, d2] }
  | _ => none }
def locksTrueRow : OpenClaim := { program := "ytefaihockgebeaa", sum := "8c6dad7f05b2142281d43283fdb4cc7b8dc4c5456211f70963b5b1009e770d1b", func := "corrody/corrodylaw28.LocksTrue", spec := "locksTrue", unfollowed := true, recurses := true, apart := false }
def LocksTrueSaid : Prop := locksTrueRow.holds Try.pinned (OpenSpec.ofChange locksTrueSpec)

/-- ITS FALSE NEIGHBOUR: 'it returns false'. Refute it at one input. -/
def locksTrueWrong : ChangeSpec := { name := "locksTrue", fn := fun _ => fun
  | [d1, d2] => { results := [.lit (.bool false)], args := [d1, d2] }
  | _ => none }
def LocksTrueWrongFalsely : Prop := locksTrueRow.holds Try.pinned (OpenSpec.ofChange locksTrueWrong)

/-- 'corrodylaw28.LocksPlays': WHATEVER THE INPUT: true; the input reads as it did. -/
def locksPlaysSpec : ChangeSpec := { name := "locksPlays", fn := fun _ => fun
  | [d1, d2] => { results := [.lit (.bool true)], args := [d1, d2] }
  | _ => none }
def locksPlaysRow : OpenClaim := { program := "ytefaihockgebeaa", sum := "8c6dad7f05b2142281d43283fdb4cc7b8dc4c5456211f70963b5b1009e770d1b", func := "corrody/corrodylaw28.LocksPlays", spec := "locksPlays", unfollowed := true, recurses := true, apart := false }
def LocksPlaysSaid : Prop := locksPlaysRow.holds Try.pinned (OpenSpec.ofChange locksPlaysSpec)

/-- ITS FALSE NEIGHBOUR: 'it returns false'. Refute it at one input. -/
def locksPlaysWrong : ChangeSpec := { name := "locksPlays", fn := fun _ => fun
  | [d1, d2] => { results := [.lit (.bool false)], args := [d1, d2] }
  | _ => none }
def LocksPlaysWrongFalsely : Prop := locksPlaysRow.holds Try.pinned (OpenSpec.ofChange locksPlaysWrong)

/-- 'corrodylaw28.LocksNone': WHATEVER THE INPUT: true; the input reads as it did. -/
def locksNoneSpec : ChangeSpec := { name := "locksNone", fn := fun _ => fun
  | [d] => { results := [.lit (.bool true)], args := [d] }
  | _ => none }
def locksNoneRow : OpenClaim := { program := "ytefaihockgebeaa", sum := "8c6dad7f05b2142281d43283fdb4cc7b8dc4c5456211f70963b5b1009e770d1b", func := "corrody/corrodylaw28.LocksNone", spec := "locksNone", unfollowed := true, recurses := true, apart := false }
def LocksNoneSaid : Prop := locksNoneRow.holds Try.pinned (OpenSpec.ofChange locksNoneSpec)

/-- ITS FALSE NEIGHBOUR: 'it returns false'. Refute it at one input. -/
def locksNoneWrong : ChangeSpec := { name := "locksNone", fn := fun _ => fun
  | [d] => { results := [.lit (.bool false)], args := [d] }
  | _ => none }
def LocksNoneWrongFalsely : Prop := locksNoneRow.holds Try.pinned (OpenSpec.ofChange locksNoneWrong)

/- THE SECOND FORM. 'bulk': how many values and letters a reading holds, each counted each time it is reached (what is shared counts as often as it is met; a slice's spare places count too). A statement '..UptoSaid' is the law's where the arguments, and the package variables that the reading takes, are together of bulk at most 1048576: NARROWER than '..Said'. Prove '..Said' where nothing that the law and all that it calls make is longer than what came in: it says more and counts as full. Else prove '..UptoSaid'. A law counts once. -/
mutual
def uptoBulk {H : Type} : DataW H → Nat
  | .lit (.string bytes) => bytes.length + 1
  | .lit _ => 1
  | .nil => 1
  | .ptr d => uptoBulk d + 1
  | .slice elems spare => uptoBulkAll elems + uptoBulkAll spare + 1
  | .agg parts => uptoBulkAll parts + 1
  | .iface _ d => uptoBulk d + 1
  | .map entries => uptoBulkEntries entries + 1
  | .held _ => 1
def uptoBulkAll {H : Type} : List (DataW H) → Nat
  | [] => 0
  | d :: r => uptoBulk d + uptoBulkAll r
def uptoBulkEntries {H : Type} : List (Lit × DataW H) → Nat
  | [] => 0
  | x :: r => uptoBulkEntry x + uptoBulkEntries r
def uptoBulkEntry {H : Type} : Lit × DataW H → Nat
  | (.string bytes, d) => bytes.length + uptoBulk d + 1
  | (_, d) => uptoBulk d + 1
 end
def uptoSmall : (H : Type) → List (DataW H) → Bool := fun _ ds => decide (uptoBulkAll ds ≤ 1048576)
def OpenSpec.upto (s : _root_.Go.ChangeSpec) : _root_.Go.OpenSpec := { _root_.Go.OpenSpec.ofChange s with cond := some uptoSmall }

/-- 'corrodylaw21.GraphOf', WHERE WHAT IT READS IS OF BULK AT MOST 1048576: true; the input reads as it did. -/
def graphOfUptoRow : OpenClaim := { program := "ytefaihockgebeaa", sum := "8c6dad7f05b2142281d43283fdb4cc7b8dc4c5456211f70963b5b1009e770d1b", func := "corrody/corrodylaw21.GraphOf", spec := "graphOf", unfollowed := true, recurses := true, apart := false, narrowed := true }
def GraphOfUptoSaid : Prop := graphOfUptoRow.holds Try.pinned (OpenSpec.upto graphOfSpec)

/-- 'corrodylaw21.GraphOrder', WHERE WHAT IT READS IS OF BULK AT MOST 1048576: true; the input reads as it did. -/
def graphOrderUptoRow : OpenClaim := { program := "ytefaihockgebeaa", sum := "8c6dad7f05b2142281d43283fdb4cc7b8dc4c5456211f70963b5b1009e770d1b", func := "corrody/corrodylaw21.GraphOrder", spec := "graphOrder", unfollowed := true, recurses := true, apart := false, narrowed := true }
def GraphOrderUptoSaid : Prop := graphOrderUptoRow.holds Try.pinned (OpenSpec.upto graphOrderSpec)

/-- 'corrodylaw21.GraphLinks', WHERE WHAT IT READS IS OF BULK AT MOST 1048576: true; the input reads as it did. -/
def graphLinksUptoRow : OpenClaim := { program := "ytefaihockgebeaa", sum := "8c6dad7f05b2142281d43283fdb4cc7b8dc4c5456211f70963b5b1009e770d1b", func := "corrody/corrodylaw21.GraphLinks", spec := "graphLinks", unfollowed := true, recurses := true, apart := false, narrowed := true }
def GraphLinksUptoSaid : Prop := graphLinksUptoRow.holds Try.pinned (OpenSpec.upto graphLinksSpec)

/-- 'corrodylaw07.SpansLaws', WHERE WHAT IT READS IS OF BULK AT MOST 1048576: true; the input reads as it did. -/
def spansLawsUptoRow : OpenClaim := { program := "ytefaihockgebeaa", sum := "8c6dad7f05b2142281d43283fdb4cc7b8dc4c5456211f70963b5b1009e770d1b", func := "corrody/corrodylaw07.SpansLaws", spec := "spansLaws", unfollowed := true, recurses := true, apart := false, narrowed := true }
def SpansLawsUptoSaid : Prop := spansLawsUptoRow.holds Try.pinned (OpenSpec.upto spansLawsSpec)

/-- 'corrodylaw07.SpansDays', WHERE WHAT IT READS IS OF BULK AT MOST 1048576: true; the input reads as it did. -/
def spansDaysUptoRow : OpenClaim := { program := "ytefaihockgebeaa", sum := "8c6dad7f05b2142281d43283fdb4cc7b8dc4c5456211f70963b5b1009e770d1b", func := "corrody/corrodylaw07.SpansDays", spec := "spansDays", unfollowed := true, recurses := true, apart := false, narrowed := true }
def SpansDaysUptoSaid : Prop := spansDaysUptoRow.holds Try.pinned (OpenSpec.upto spansDaysSpec)

/-- 'corrodylaw07.SpansSets', WHERE WHAT IT READS IS OF BULK AT MOST 1048576: true; the input reads as it did. -/
def spansSetsUptoRow : OpenClaim := { program := "ytefaihockgebeaa", sum := "8c6dad7f05b2142281d43283fdb4cc7b8dc4c5456211f70963b5b1009e770d1b", func := "corrody/corrodylaw07.SpansSets", spec := "spansSets", unfollowed := true, recurses := true, apart := false, narrowed := true }
def SpansSetsUptoSaid : Prop := spansSetsUptoRow.holds Try.pinned (OpenSpec.upto spansSetsSpec)

/-- 'corrodylaw28.LocksTrue', WHERE WHAT IT READS IS OF BULK AT MOST 1048576: true; the input reads as it did. -/
def locksTrueUptoRow : OpenClaim := { program := "ytefaihockgebeaa", sum := "8c6dad7f05b2142281d43283fdb4cc7b8dc4c5456211f70963b5b1009e770d1b", func := "corrody/corrodylaw28.LocksTrue", spec := "locksTrue", unfollowed := true, recurses := true, apart := false, narrowed := true }
def LocksTrueUptoSaid : Prop := locksTrueUptoRow.holds Try.pinned (OpenSpec.upto locksTrueSpec)

/-- 'corrodylaw28.LocksPlays', WHERE WHAT IT READS IS OF BULK AT MOST 1048576: true; the input reads as it did. -/
def locksPlaysUptoRow : OpenClaim := { program := "ytefaihockgebeaa", sum := "8c6dad7f05b2142281d43283fdb4cc7b8dc4c5456211f70963b5b1009e770d1b", func := "corrody/corrodylaw28.LocksPlays", spec := "locksPlays", unfollowed := true, recurses := true, apart := false, narrowed := true }
def LocksPlaysUptoSaid : Prop := locksPlaysUptoRow.holds Try.pinned (OpenSpec.upto locksPlaysSpec)

/-- 'corrodylaw28.LocksNone', WHERE WHAT IT READS IS OF BULK AT MOST 1048576: true; the input reads as it did. -/
def locksNoneUptoRow : OpenClaim := { program := "ytefaihockgebeaa", sum := "8c6dad7f05b2142281d43283fdb4cc7b8dc4c5456211f70963b5b1009e770d1b", func := "corrody/corrodylaw28.LocksNone", spec := "locksNone", unfollowed := true, recurses := true, apart := false, narrowed := true }
def LocksNoneUptoSaid : Prop := locksNoneUptoRow.holds Try.pinned (OpenSpec.upto locksNoneSpec)

end Rows
end Go.Proofs.Ytefaihockgebeaa
