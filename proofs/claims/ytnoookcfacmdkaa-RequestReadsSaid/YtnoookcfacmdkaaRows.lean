/-
  No cell of these rows narrows 'for every input' (looked for: loops, veiled, ifaces, maps, wideKeys, modest, calm, conditions, laid).
  DERIVED. THE GIVEN ROWS OF THIS SEAT. 6 by the template 'for every input the law returns true; each argument reads behind the call as it read before'; 0 by the template 'total and deterministic' (their statements: YtnoookcfacmdkaaTotals.lean).
  GIVEN WITH THE SEED: the statements are not yours to turn. If you find one false, say at which input.
  Laid BY PROGRAM, IN A SANDBOX (cutbox-rows.mjs): the forced cells as the released guide's own fill.sh prints them over the translation fb06d8c82a101377… (all of the seat's roots in one cut). By AI agents, Wed Nov 11 2026. No macro, syntax, notation, axiom, sorry.
-/
import Derived.Test.YtnoookcfacmdkaaChecked
import GoSem.Claim
import GoSem.ClaimJoined
import GoSem.ClaimMapViews
import Derived.JoinedTies
import Derived.KernelRfl
namespace Go.Proofs.Ytnoookcfacmdkaa
/- THE CELL 'sum', in the pinned program and in every row, IS THE sha256 OF THE DUMP (.gsa) THAT YtnoookcfacmdkaaProg.lean LOADS. Nothing in Lean hashes anything: it is a label: what it is worth is what the hold of that sum in a sandbox is worth. -/
noncomputable def Try.pinned : Pinned := { name := "ytnoookcfacmdkaa", sum := "fb06d8c82a101377ae3fe4eed45c8fca27feffececdeeb1fc66dd0585b0526cb", checked := Try.checked }
namespace Rows
def none {H : Type} : Left H := { results := [], args := [] }

/-- 'corrodylaw30.DiskTorn': WHATEVER THE INPUT: true; the input reads as it did. -/
def diskTornSpec : ChangeSpec := { name := "diskTorn", fn := fun _ => fun
  | [d1, d2, d3, d4] => { results := [.lit (.bool true)], args := [d1, d2, d3, d4] }
  | _ => none }
def diskTornRow : OpenClaim := { program := "ytnoookcfacmdkaa", sum := "fb06d8c82a101377ae3fe4eed45c8fca27feffececdeeb1fc66dd0585b0526cb", func := "corrody/corrodylaw30.DiskTorn", spec := "diskTorn", plainKeys := false, apart := false }
def DiskTornSaid : Prop := diskTornRow.holds Try.pinned (OpenSpec.ofChange diskTornSpec)

/-- ITS FALSE NEIGHBOUR: 'it returns false'. Refute it at one input. -/
def diskTornWrong : ChangeSpec := { name := "diskTorn", fn := fun _ => fun
  | [d1, d2, d3, d4] => { results := [.lit (.bool false)], args := [d1, d2, d3, d4] }
  | _ => none }
def DiskTornWrongFalsely : Prop := diskTornRow.holds Try.pinned (OpenSpec.ofChange diskTornWrong)

/-- 'corrodylaw30.DiskPlays': WHATEVER THE INPUT: true; the input reads as it did. -/
def diskPlaysSpec : ChangeSpec := { name := "diskPlays", fn := fun _ => fun
  | [d1, d2] => { results := [.lit (.bool true)], args := [d1, d2] }
  | _ => none }
def diskPlaysRow : OpenClaim := { program := "ytnoookcfacmdkaa", sum := "fb06d8c82a101377ae3fe4eed45c8fca27feffececdeeb1fc66dd0585b0526cb", func := "corrody/corrodylaw30.DiskPlays", spec := "diskPlays", inPlace := ["maps.clone"], plainKeys := false, apart := false }
def DiskPlaysSaid : Prop := diskPlaysRow.holds Try.pinned (OpenSpec.ofChange diskPlaysSpec)

/-- ITS FALSE NEIGHBOUR: 'it returns false'. Refute it at one input. -/
def diskPlaysWrong : ChangeSpec := { name := "diskPlays", fn := fun _ => fun
  | [d1, d2] => { results := [.lit (.bool false)], args := [d1, d2] }
  | _ => none }
def DiskPlaysWrongFalsely : Prop := diskPlaysRow.holds Try.pinned (OpenSpec.ofChange diskPlaysWrong)

/-- 'corrodylaw30.DiskNone': WHATEVER THE INPUT: true; the input reads as it did. -/
def diskNoneSpec : ChangeSpec := { name := "diskNone", fn := fun _ => fun
  | [d] => { results := [.lit (.bool true)], args := [d] }
  | _ => none }
def diskNoneRow : OpenClaim := { program := "ytnoookcfacmdkaa", sum := "fb06d8c82a101377ae3fe4eed45c8fca27feffececdeeb1fc66dd0585b0526cb", func := "corrody/corrodylaw30.DiskNone", spec := "diskNone", inPlace := ["maps.clone"], plainKeys := false, apart := false }
def DiskNoneSaid : Prop := diskNoneRow.holds Try.pinned (OpenSpec.ofChange diskNoneSpec)

/-- ITS FALSE NEIGHBOUR: 'it returns false'. Refute it at one input. -/
def diskNoneWrong : ChangeSpec := { name := "diskNone", fn := fun _ => fun
  | [d] => { results := [.lit (.bool false)], args := [d] }
  | _ => none }
def DiskNoneWrongFalsely : Prop := diskNoneRow.holds Try.pinned (OpenSpec.ofChange diskNoneWrong)

/-- 'corrodylaw25.RequestReads': WHATEVER THE INPUT: true; the input reads as it did. -/
def requestReadsSpec : ChangeSpec := { name := "requestReads", fn := fun _ => fun
  | [d] => { results := [.lit (.bool true)], args := [d] }
  | _ => none }
def requestReadsRow : OpenClaim := { program := "ytnoookcfacmdkaa", sum := "fb06d8c82a101377ae3fe4eed45c8fca27feffececdeeb1fc66dd0585b0526cb", func := "corrody/corrodylaw25.RequestReads", spec := "requestReads", unfollowed := true, recurses := true, plainKeys := false, apart := false }
def RequestReadsSaid : Prop := requestReadsRow.holds Try.pinned (OpenSpec.ofChange requestReadsSpec)

/-- ITS FALSE NEIGHBOUR: 'it returns false'. Refute it at one input. -/
def requestReadsWrong : ChangeSpec := { name := "requestReads", fn := fun _ => fun
  | [d] => { results := [.lit (.bool false)], args := [d] }
  | _ => none }
def RequestReadsWrongFalsely : Prop := requestReadsRow.holds Try.pinned (OpenSpec.ofChange requestReadsWrong)

/-- 'corrodylaw25.RequestCuts': WHATEVER THE INPUT: true; the input reads as it did. -/
def requestCutsSpec : ChangeSpec := { name := "requestCuts", fn := fun _ => fun
  | [d1, d2, d3] => { results := [.lit (.bool true)], args := [d1, d2, d3] }
  | _ => none }
def requestCutsRow : OpenClaim := { program := "ytnoookcfacmdkaa", sum := "fb06d8c82a101377ae3fe4eed45c8fca27feffececdeeb1fc66dd0585b0526cb", func := "corrody/corrodylaw25.RequestCuts", spec := "requestCuts", unfollowed := true, recurses := true, plainKeys := false, apart := false }
def RequestCutsSaid : Prop := requestCutsRow.holds Try.pinned (OpenSpec.ofChange requestCutsSpec)

/-- ITS FALSE NEIGHBOUR: 'it returns false'. Refute it at one input. -/
def requestCutsWrong : ChangeSpec := { name := "requestCuts", fn := fun _ => fun
  | [d1, d2, d3] => { results := [.lit (.bool false)], args := [d1, d2, d3] }
  | _ => none }
def RequestCutsWrongFalsely : Prop := requestCutsRow.holds Try.pinned (OpenSpec.ofChange requestCutsWrong)

/-- 'corrodylaw25.RequestForms': WHATEVER THE INPUT: true; the input reads as it did. -/
def requestFormsSpec : ChangeSpec := { name := "requestForms", fn := fun _ => fun
  | [d1, d2] => { results := [.lit (.bool true)], args := [d1, d2] }
  | _ => none }
def requestFormsRow : OpenClaim := { program := "ytnoookcfacmdkaa", sum := "fb06d8c82a101377ae3fe4eed45c8fca27feffececdeeb1fc66dd0585b0526cb", func := "corrody/corrodylaw25.RequestForms", spec := "requestForms", unfollowed := true, recurses := true, plainKeys := false, apart := false }
def RequestFormsSaid : Prop := requestFormsRow.holds Try.pinned (OpenSpec.ofChange requestFormsSpec)

/-- ITS FALSE NEIGHBOUR: 'it returns false'. Refute it at one input. -/
def requestFormsWrong : ChangeSpec := { name := "requestForms", fn := fun _ => fun
  | [d1, d2] => { results := [.lit (.bool false)], args := [d1, d2] }
  | _ => none }
def RequestFormsWrongFalsely : Prop := requestFormsRow.holds Try.pinned (OpenSpec.ofChange requestFormsWrong)

/- THE SECOND FORM. 'bulk': how many values and letters a reading holds, each counted each time it is reached (what is shared counts as often as it is met; a slice's spare places count too). A statement '..UptoSaid' is the law's where the arguments, and the package variables that the reading takes, are together of bulk at most 1048576: NARROWER than '..Said'. Prove '..Said' where nothing that the law and all that it calls make is longer than what came in: it says more and counts as full. Else prove '..UptoSaid'. A law counts once. -/
mutual
def uptoBulk {H : Type} : DataW H → Nat
  | .lit (.string bytes) => bytes.length + 1
  | .lit _ => 1
  | .nil => 1
  | .ptr d => uptoBulk d + 1
  | .slice elems spare => uptoBulkAll elems + uptoBulkAll spare + 1
  | .agg parts => uptoBulkAll parts + 1
  | .iface _ d => uptoBulk d + 1
  | .map entries => uptoBulkEntries entries + 1
  | .held _ => 1
def uptoBulkAll {H : Type} : List (DataW H) → Nat
  | [] => 0
  | d :: r => uptoBulk d + uptoBulkAll r
def uptoBulkEntries {H : Type} : List (Lit × DataW H) → Nat
  | [] => 0
  | x :: r => uptoBulkEntry x + uptoBulkEntries r
def uptoBulkEntry {H : Type} : Lit × DataW H → Nat
  | (.string bytes, d) => bytes.length + uptoBulk d + 1
  | (_, d) => uptoBulk d + 1
 end
def uptoSmall : (H : Type) → List (DataW H) → Bool := fun _ ds => decide (uptoBulkAll ds ≤ 1048576)
def OpenSpec.upto (s : _root_.Go.ChangeSpec) : _root_.Go.OpenSpec := { _root_.Go.OpenSpec.ofChange s with cond := some uptoSmall }

/-- 'corrodylaw30.DiskTorn', WHERE WHAT IT READS IS OF BULK AT MOST 1048576: true; the input reads as it did. -/
def diskTornUptoRow : OpenClaim := { program := "ytnoookcfacmdkaa", sum := "fb06d8c82a101377ae3fe4eed45c8fca27feffececdeeb1fc66dd0585b0526cb", func := "corrody/corrodylaw30.DiskTorn", spec := "diskTorn", plainKeys := false, apart := false, narrowed := true }
def DiskTornUptoSaid : Prop := diskTornUptoRow.holds Try.pinned (OpenSpec.upto diskTornSpec)

/-- 'corrodylaw30.DiskPlays', WHERE WHAT IT READS IS OF BULK AT MOST 1048576: true; the input reads as it did. -/
def diskPlaysUptoRow : OpenClaim := { program := "ytnoookcfacmdkaa", sum := "fb06d8c82a101377ae3fe4eed45c8fca27feffececdeeb1fc66dd0585b0526cb", func := "corrody/corrodylaw30.DiskPlays", spec := "diskPlays", inPlace := ["maps.clone"], plainKeys := false, apart := false, narrowed := true }
def DiskPlaysUptoSaid : Prop := diskPlaysUptoRow.holds Try.pinned (OpenSpec.upto diskPlaysSpec)

/-- 'corrodylaw30.DiskNone', WHERE WHAT IT READS IS OF BULK AT MOST 1048576: true; the input reads as it did. -/
def diskNoneUptoRow : OpenClaim := { program := "ytnoookcfacmdkaa", sum := "fb06d8c82a101377ae3fe4eed45c8fca27feffececdeeb1fc66dd0585b0526cb", func := "corrody/corrodylaw30.DiskNone", spec := "diskNone", inPlace := ["maps.clone"], plainKeys := false, apart := false, narrowed := true }
def DiskNoneUptoSaid : Prop := diskNoneUptoRow.holds Try.pinned (OpenSpec.upto diskNoneSpec)

/-- 'corrodylaw25.RequestReads', WHERE WHAT IT READS IS OF BULK AT MOST 1048576: true; the input reads as it did. -/
def requestReadsUptoRow : OpenClaim := { program := "ytnoookcfacmdkaa", sum := "fb06d8c82a101377ae3fe4eed45c8fca27feffececdeeb1fc66dd0585b0526cb", func := "corrody/corrodylaw25.RequestReads", spec := "requestReads", unfollowed := true, recurses := true, plainKeys := false, apart := false, narrowed := true }
def RequestReadsUptoSaid : Prop := requestReadsUptoRow.holds Try.pinned (OpenSpec.upto requestReadsSpec)

/-- 'corrodylaw25.RequestCuts', WHERE WHAT IT READS IS OF BULK AT MOST 1048576: true; the input reads as it did. -/
def requestCutsUptoRow : OpenClaim := { program := "ytnoookcfacmdkaa", sum := "fb06d8c82a101377ae3fe4eed45c8fca27feffececdeeb1fc66dd0585b0526cb", func := "corrody/corrodylaw25.RequestCuts", spec := "requestCuts", unfollowed := true, recurses := true, plainKeys := false, apart := false, narrowed := true }
def RequestCutsUptoSaid : Prop := requestCutsUptoRow.holds Try.pinned (OpenSpec.upto requestCutsSpec)

/-- 'corrodylaw25.RequestForms', WHERE WHAT IT READS IS OF BULK AT MOST 1048576: true; the input reads as it did. -/
def requestFormsUptoRow : OpenClaim := { program := "ytnoookcfacmdkaa", sum := "fb06d8c82a101377ae3fe4eed45c8fca27feffececdeeb1fc66dd0585b0526cb", func := "corrody/corrodylaw25.RequestForms", spec := "requestForms", unfollowed := true, recurses := true, plainKeys := false, apart := false, narrowed := true }
def RequestFormsUptoSaid : Prop := requestFormsUptoRow.holds Try.pinned (OpenSpec.upto requestFormsSpec)

end Rows
end Go.Proofs.Ytnoookcfacmdkaa
