/-
  No cell of these rows narrows 'for every input' (looked for: loops, veiled, ifaces, maps, wideKeys, modest, calm, conditions, laid).
  DERIVED. THE GIVEN ROWS OF THIS SEAT. 4 by the template 'for every input the law returns true; each argument reads behind the call as it read before'; 0 by the template 'total and deterministic' (their statements: YtngglpekdjhbdaaTotals.lean).
  GIVEN WITH THE SEED: the statements are not yours to turn. If you find one false, say at which input.
  Laid BY PROGRAM, IN A SANDBOX (cutbox-rows.mjs): the forced cells as the released guide's own fill.sh prints them over the translation 8704cb898922c8de… (all of the seat's roots in one cut). By AI agents, Wed Nov 11 2026. No macro, syntax, notation, axiom, sorry.
-/
import Derived.Test.YtngglpekdjhbdaaChecked
import GoSem.Claim
import GoSem.ClaimJoined
import GoSem.ClaimMapViews
import Derived.JoinedTies
import Derived.KernelRfl
namespace Go.Proofs.Ytngglpekdjhbdaa
/- THE CELL 'sum', in the pinned program and in every row, IS THE sha256 OF THE DUMP (.gsa) THAT YtngglpekdjhbdaaProg.lean LOADS. Nothing in Lean hashes anything: it is a label: what it is worth is what the hold of that sum in a sandbox is worth. -/
noncomputable def Try.pinned : Pinned := { name := "ytngglpekdjhbdaa", sum := "8704cb898922c8de0eb387236deee15d0cb50fef0ed7481ad2353fae252c1160", checked := Try.checked }
namespace Rows
def none {H : Type} : Left H := { results := [], args := [] }

/-- 'corrodylaw12.RefineParts': WHATEVER THE INPUT: true; the input reads as it did. -/
def refinePartsSpec : ChangeSpec := { name := "refineParts", fn := fun _ => fun
  | [d1, d2, d3] => { results := [.lit (.bool true)], args := [d1, d2, d3] }
  | _ => none }
def refinePartsRow : OpenClaim := { program := "ytngglpekdjhbdaa", sum := "8704cb898922c8de0eb387236deee15d0cb50fef0ed7481ad2353fae252c1160", func := "corrody/corrodylaw12.RefineParts", spec := "refineParts", unfollowed := true, recurses := true, apart := false }
def RefinePartsSaid : Prop := refinePartsRow.holds Try.pinned (OpenSpec.ofChange refinePartsSpec)

/-- ITS FALSE NEIGHBOUR: 'it returns false'. Refute it at one input. -/
def refinePartsWrong : ChangeSpec := { name := "refineParts", fn := fun _ => fun
  | [d1, d2, d3] => { results := [.lit (.bool false)], args := [d1, d2, d3] }
  | _ => none }
def RefinePartsWrongFalsely : Prop := refinePartsRow.holds Try.pinned (OpenSpec.ofChange refinePartsWrong)

/-- 'corrodylaw12.RefineCovers': WHATEVER THE INPUT: true; the input reads as it did. -/
def refineCoversSpec : ChangeSpec := { name := "refineCovers", fn := fun _ => fun
  | [d1, d2] => { results := [.lit (.bool true)], args := [d1, d2] }
  | _ => none }
def refineCoversRow : OpenClaim := { program := "ytngglpekdjhbdaa", sum := "8704cb898922c8de0eb387236deee15d0cb50fef0ed7481ad2353fae252c1160", func := "corrody/corrodylaw12.RefineCovers", spec := "refineCovers", unfollowed := true, recurses := true, apart := false }
def RefineCoversSaid : Prop := refineCoversRow.holds Try.pinned (OpenSpec.ofChange refineCoversSpec)

/-- ITS FALSE NEIGHBOUR: 'it returns false'. Refute it at one input. -/
def refineCoversWrong : ChangeSpec := { name := "refineCovers", fn := fun _ => fun
  | [d1, d2] => { results := [.lit (.bool false)], args := [d1, d2] }
  | _ => none }
def RefineCoversWrongFalsely : Prop := refineCoversRow.holds Try.pinned (OpenSpec.ofChange refineCoversWrong)

/-- 'corrodylaw12.RefineMaps': WHATEVER THE INPUT: true; the input reads as it did. -/
def refineMapsSpec : ChangeSpec := { name := "refineMaps", fn := fun _ => fun
  | [d1, d2, d3, d4] => { results := [.lit (.bool true)], args := [d1, d2, d3, d4] }
  | _ => none }
def refineMapsRow : OpenClaim := { program := "ytngglpekdjhbdaa", sum := "8704cb898922c8de0eb387236deee15d0cb50fef0ed7481ad2353fae252c1160", func := "corrody/corrodylaw12.RefineMaps", spec := "refineMaps", unfollowed := true, recurses := true, apart := false }
def RefineMapsSaid : Prop := refineMapsRow.holds Try.pinned (OpenSpec.ofChange refineMapsSpec)

/-- ITS FALSE NEIGHBOUR: 'it returns false'. Refute it at one input. -/
def refineMapsWrong : ChangeSpec := { name := "refineMaps", fn := fun _ => fun
  | [d1, d2, d3, d4] => { results := [.lit (.bool false)], args := [d1, d2, d3, d4] }
  | _ => none }
def RefineMapsWrongFalsely : Prop := refineMapsRow.holds Try.pinned (OpenSpec.ofChange refineMapsWrong)

/-- 'corrodylaw13.BitempRects': WHATEVER THE INPUT: true; the input reads as it did. -/
def bitempRectsSpec : ChangeSpec := { name := "bitempRects", fn := fun _ => fun
  | [d1, d2] => { results := [.lit (.bool true)], args := [d1, d2] }
  | _ => none }
def bitempRectsRow : OpenClaim := { program := "ytngglpekdjhbdaa", sum := "8704cb898922c8de0eb387236deee15d0cb50fef0ed7481ad2353fae252c1160", func := "corrody/corrodylaw13.BitempRects", spec := "bitempRects", unfollowed := true, recurses := true, apart := false }
def BitempRectsSaid : Prop := bitempRectsRow.holds Try.pinned (OpenSpec.ofChange bitempRectsSpec)

/-- ITS FALSE NEIGHBOUR: 'it returns false'. Refute it at one input. -/
def bitempRectsWrong : ChangeSpec := { name := "bitempRects", fn := fun _ => fun
  | [d1, d2] => { results := [.lit (.bool false)], args := [d1, d2] }
  | _ => none }
def BitempRectsWrongFalsely : Prop := bitempRectsRow.holds Try.pinned (OpenSpec.ofChange bitempRectsWrong)

/- THE SECOND FORM. 'bulk': how many values and letters a reading holds, each counted each time it is reached (what is shared counts as often as it is met; a slice's spare places count too). A statement '..UptoSaid' is the law's where the arguments, and the package variables that the reading takes, are together of bulk at most 1048576: NARROWER than '..Said'. Prove '..Said' where nothing that the law and all that it calls make is longer than what came in: it says more and counts as full. Else prove '..UptoSaid'. A law counts once. -/
mutual
def uptoBulk {H : Type} : DataW H → Nat
  | .lit (.string bytes) => bytes.length + 1
  | .lit _ => 1
  | .nil => 1
  | .ptr d => uptoBulk d + 1
  | .slice elems spare => uptoBulkAll elems + uptoBulkAll spare + 1
  | .agg parts => uptoBulkAll parts + 1
  | .iface _ d => uptoBulk d + 1
  | .map entries => uptoBulkEntries entries + 1
  | .held _ => 1
def uptoBulkAll {H : Type} : List (DataW H) → Nat
  | [] => 0
  | d :: r => uptoBulk d + uptoBulkAll r
def uptoBulkEntries {H : Type} : List (Lit × DataW H) → Nat
  | [] => 0
  | x :: r => uptoBulkEntry x + uptoBulkEntries r
def uptoBulkEntry {H : Type} : Lit × DataW H → Nat
  | (.string bytes, d) => bytes.length + uptoBulk d + 1
  | (_, d) => uptoBulk d + 1
 end
def uptoSmall : (H : Type) → List (DataW H) → Bool := fun _ ds => decide (uptoBulkAll ds ≤ 1048576)
def OpenSpec.upto (s : _root_.Go.ChangeSpec) : _root_.Go.OpenSpec := { _root_.Go.OpenSpec.ofChange s with cond := some uptoSmall }

/-- 'corrodylaw12.RefineParts', WHERE WHAT IT READS IS OF BULK AT MOST 1048576: true; the input reads as it did. -/
def refinePartsUptoRow : OpenClaim := { program := "ytngglpekdjhbdaa", sum := "8704cb898922c8de0eb387236deee15d0cb50fef0ed7481ad2353fae252c1160", func := "corrody/corrodylaw12.RefineParts", spec := "refineParts", unfollowed := true, recurses := true, apart := false, narrowed := true }
def RefinePartsUptoSaid : Prop := refinePartsUptoRow.holds Try.pinned (OpenSpec.upto refinePartsSpec)

/-- 'corrodylaw12.RefineCovers', WHERE WHAT IT READS IS OF BULK AT MOST 1048576: true; the input reads as it did. -/
def refineCoversUptoRow : OpenClaim := { program := "ytngglpekdjhbdaa", sum := "8704cb898922c8de0eb387236deee15d0cb50fef0ed7481ad2353fae252c1160", func := "corrody/corrodylaw12.RefineCovers", spec := "refineCovers", unfollowed := true, recurses := true, apart := false, narrowed := true }
def RefineCoversUptoSaid : Prop := refineCoversUptoRow.holds Try.pinned (OpenSpec.upto refineCoversSpec)

/-- 'corrodylaw12.RefineMaps', WHERE WHAT IT READS IS OF BULK AT MOST 1048576: true; the input reads as it did. -/
def refineMapsUptoRow : OpenClaim := { program := "ytngglpekdjhbdaa", sum := "8704cb898922c8de0eb387236deee15d0cb50fef0ed7481ad2353fae252c1160", func := "corrody/corrodylaw12.RefineMaps", spec := "refineMaps", unfollowed := true, recurses := true, apart := false, narrowed := true }
def RefineMapsUptoSaid : Prop := refineMapsUptoRow.holds Try.pinned (OpenSpec.upto refineMapsSpec)

/-- 'corrodylaw13.BitempRects', WHERE WHAT IT READS IS OF BULK AT MOST 1048576: true; the input reads as it did. -/
def bitempRectsUptoRow : OpenClaim := { program := "ytngglpekdjhbdaa", sum := "8704cb898922c8de0eb387236deee15d0cb50fef0ed7481ad2353fae252c1160", func := "corrody/corrodylaw13.BitempRects", spec := "bitempRects", unfollowed := true, recurses := true, apart := false, narrowed := true }
def BitempRectsUptoSaid : Prop := bitempRectsUptoRow.holds Try.pinned (OpenSpec.upto bitempRectsSpec)

end Rows
end Go.Proofs.Ytngglpekdjhbdaa
