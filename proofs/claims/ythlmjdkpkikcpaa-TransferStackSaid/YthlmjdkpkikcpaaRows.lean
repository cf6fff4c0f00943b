/-
  No cell of these rows narrows 'for every input' (looked for: loops, veiled, ifaces, maps, wideKeys, modest, calm, conditions, laid).
  DERIVED. THE GIVEN ROWS OF THIS SEAT. 6 by the template 'for every input the law returns true; each argument reads behind the call as it read before'; 0 by the template 'total and deterministic' (their statements: YthlmjdkpkikcpaaTotals.lean).
  GIVEN WITH THE SEED: the statements are not yours to turn. If you find one false, say at which input.
  Laid BY PROGRAM, IN A SANDBOX (cutbox-rows.mjs): the forced cells as the released guide's own fill.sh prints them over the translation f41f75207777f6b5… (all of the seat's roots in one cut). By AI agents, Wed Nov 11 2026. No macro, syntax, notation, axiom, sorry.
-/
import Derived.Test.YthlmjdkpkikcpaaChecked
import GoSem.Claim
import GoSem.ClaimJoined
import GoSem.ClaimMapViews
import Derived.JoinedTies
import Derived.KernelRfl
namespace Go.Proofs.Ythlmjdkpkikcpaa
/- THE CELL 'sum', in the pinned program and in every row, IS THE sha256 OF THE DUMP (.gsa) THAT YthlmjdkpkikcpaaProg.lean LOADS. Nothing in Lean hashes anything: it is a label: what it is worth is what the hold of that sum in a sandbox is worth. -/
noncomputable def Try.pinned : Pinned := { name := "ythlmjdkpkikcpaa", sum := "f41f75207777f6b5aee03a29a84c9e8f94d441e80a22968bd17914c668cff820", checked := Try.checked }
namespace Rows
def none {H : Type} : Left H := { results := [], args := [] }

/-- 'freeholdlaw08.TransferStack': WHATEVER THE INPUT: true; the input reads as it did. -/
def transferStackSpec : ChangeSpec := { name := "transferStack", fn := fun _ => fun
  | [d1, d2, d3] => { results := [.lit (.bool true)], args := [d1, d2, d3] }
  | _ => none }
def transferStackRow : OpenClaim := { program := "ythlmjdkpkikcpaa", sum := "f41f75207777f6b5aee03a29a84c9e8f94d441e80a22968bd17914c668cff820", func := "freehold/freeholdlaw08.TransferStack", spec := "transferStack", unfollowed := true, recurses := true, apart := false }
def TransferStackSaid : Prop := transferStackRow.holds Try.pinned (OpenSpec.ofChange transferStackSpec)

/-- ITS FALSE NEIGHBOUR: 'it returns false'. Refute it at one input. -/
def transferStackWrong : ChangeSpec := { name := "transferStack", fn := fun _ => fun
  | [d1, d2, d3] => { results := [.lit (.bool false)], args := [d1, d2, d3] }
  | _ => none }
def TransferStackWrongFalsely : Prop := transferStackRow.holds Try.pinned (OpenSpec.ofChange transferStackWrong)

/-- 'freeholdlaw08.TransferLow': WHATEVER THE INPUT: true; the input reads as it did. -/
def transferLowSpec : ChangeSpec := { name := "transferLow", fn := fun _ => fun
  | [d1, d2, d3] => { results := [.lit (.bool true)], args := [d1, d2, d3] }
  | _ => none }
def transferLowRow : OpenClaim := { program := "ythlmjdkpkikcpaa", sum := "f41f75207777f6b5aee03a29a84c9e8f94d441e80a22968bd17914c668cff820", func := "freehold/freeholdlaw08.TransferLow", spec := "transferLow", unfollowed := true, recurses := true, apart := false }
def TransferLowSaid : Prop := transferLowRow.holds Try.pinned (OpenSpec.ofChange transferLowSpec)

/-- ITS FALSE NEIGHBOUR: 'it returns false'. Refute it at one input. -/
def transferLowWrong : ChangeSpec := { name := "transferLow", fn := fun _ => fun
  | [d1, d2, d3] => { results := [.lit (.bool false)], args := [d1, d2, d3] }
  | _ => none }
def TransferLowWrongFalsely : Prop := transferLowRow.holds Try.pinned (OpenSpec.ofChange transferLowWrong)

/-- 'freeholdlaw08.TransferIdle': WHATEVER THE INPUT: true; the input reads as it did. -/
def transferIdleSpec : ChangeSpec := { name := "transferIdle", fn := fun _ => fun
  | [d1, d2, d3] => { results := [.lit (.bool true)], args := [d1, d2, d3] }
  | _ => none }
def transferIdleRow : OpenClaim := { program := "ythlmjdkpkikcpaa", sum := "f41f75207777f6b5aee03a29a84c9e8f94d441e80a22968bd17914c668cff820", func := "freehold/freeholdlaw08.TransferIdle", spec := "transferIdle", unfollowed := true, recurses := true, apart := false }
def TransferIdleSaid : Prop := transferIdleRow.holds Try.pinned (OpenSpec.ofChange transferIdleSpec)

/-- ITS FALSE NEIGHBOUR: 'it returns false'. Refute it at one input. -/
def transferIdleWrong : ChangeSpec := { name := "transferIdle", fn := fun _ => fun
  | [d1, d2, d3] => { results := [.lit (.bool false)], args := [d1, d2, d3] }
  | _ => none }
def TransferIdleWrongFalsely : Prop := transferIdleRow.holds Try.pinned (OpenSpec.ofChange transferIdleWrong)

/-- 'freeholdlaw08.TransferPlays': WHATEVER THE INPUT: true; the input reads as it did. -/
def transferPlaysSpec : ChangeSpec := { name := "transferPlays", fn := fun _ => fun
  | [d1, d2, d3] => { results := [.lit (.bool true)], args := [d1, d2, d3] }
  | _ => none }
def transferPlaysRow : OpenClaim := { program := "ythlmjdkpkikcpaa", sum := "f41f75207777f6b5aee03a29a84c9e8f94d441e80a22968bd17914c668cff820", func := "freehold/freeholdlaw08.TransferPlays", spec := "transferPlays", unfollowed := true, recurses := true, apart := false }
def TransferPlaysSaid : Prop := transferPlaysRow.holds Try.pinned (OpenSpec.ofChange transferPlaysSpec)

/-- ITS FALSE NEIGHBOUR: 'it returns false'. Refute it at one input. -/
def transferPlaysWrong : ChangeSpec := { name := "transferPlays", fn := fun _ => fun
  | [d1, d2, d3] => { results := [.lit (.bool false)], args := [d1, d2, d3] }
  | _ => none }
def TransferPlaysWrongFalsely : Prop := transferPlaysRow.holds Try.pinned (OpenSpec.ofChange transferPlaysWrong)

/-- 'freeholdlaw08.TransferNone': WHATEVER THE INPUT: true; the input reads as it did. -/
def transferNoneSpec : ChangeSpec := { name := "transferNone", fn := fun _ => fun
  | [d] => { results := [.lit (.bool true)], args := [d] }
  | _ => none }
def transferNoneRow : OpenClaim := { program := "ythlmjdkpkikcpaa", sum := "f41f75207777f6b5aee03a29a84c9e8f94d441e80a22968bd17914c668cff820", func := "freehold/freeholdlaw08.TransferNone", spec := "transferNone", unfollowed := true, recurses := true, apart := false }
def TransferNoneSaid : Prop := transferNoneRow.holds Try.pinned (OpenSpec.ofChange transferNoneSpec)

/-- ITS FALSE NEIGHBOUR: 'it returns false'. Refute it at one input. -/
def transferNoneWrong : ChangeSpec := { name := "transferNone", fn := fun _ => fun
  | [d] => { results := [.lit (.bool false)], args := [d] }
  | _ => none }
def TransferNoneWrongFalsely : Prop := transferNoneRow.holds Try.pinned (OpenSpec.ofChange transferNoneWrong)

/-- 'freeholdlaw08.TransferClones': WHATEVER THE INPUT: true; the input reads as it did. -/
def transferClonesSpec : ChangeSpec := { name := "transferClones", fn := fun _ => fun
  | [d1, d2, d3, d4, d5] => { results := [.lit (.bool true)], args := [d1, d2, d3, d4, d5] }
  | _ => none }
def transferClonesRow : OpenClaim := { program := "ythlmjdkpkikcpaa", sum := "f41f75207777f6b5aee03a29a84c9e8f94d441e80a22968bd17914c668cff820", func := "freehold/freeholdlaw08.TransferClones", spec := "transferClones", unfollowed := true, recurses := true, apart := false }
def TransferClonesSaid : Prop := transferClonesRow.holds Try.pinned (OpenSpec.ofChange transferClonesSpec)

/-- ITS FALSE NEIGHBOUR: 'it returns false'. Refute it at one input. -/
def transferClonesWrong : ChangeSpec := { name := "transferClones", fn := fun _ => fun
  | [d1, d2, d3, d4, d5] => { results := [.lit (.bool false)], args := [d1, d2, d3, d4, d5] }
  | _ => none }
def TransferClonesWrongFalsely : Prop := transferClonesRow.holds Try.pinned (OpenSpec.ofChange transferClonesWrong)

/- THE SECOND FORM. 'bulk': how many values and letters a reading holds, each counted each time it is reached (what is shared counts as often as it is met; a slice's spare places count too). A statement '..UptoSaid' is the law's where the arguments, and the package variables that the reading takes, are together of bulk at most 1048576: NARROWER than '..Said'. Prove '..Said' where nothing that the law and all that it calls make is longer than what came in: it says more and counts as full. Else prove '..UptoSaid'. A law counts once. -/
mutual
def uptoBulk {H : Type} : DataW H → Nat
  | .lit (.string bytes) => bytes.length + 1
  | .lit _ => 1
  | .nil => 1
  | .ptr d => uptoBulk d + 1
  | .slice elems spare => uptoBulkAll elems + uptoBulkAll spare + 1
  | .agg parts => uptoBulkAll parts + 1
  | .iface _ d => uptoBulk d + 1
  | .map entries => uptoBulkEntries entries + 1
  | .held _ => 1
def uptoBulkAll {H : Type} : List (DataW H) → Nat
  | [] => 0
  | d :: r => uptoBulk d + uptoBulkAll r
def uptoBulkEntries {H : Type} : List (Lit × DataW H) → Nat
  | [] => 0
  | x :: r => uptoBulkEntry x + uptoBulkEntries r
def uptoBulkEntry {H : Type} : Lit × DataW H → Nat
  | (.string bytes, d) => bytes.length + uptoBulk d + 1
  | (_, d) => uptoBulk d + 1
 end
def uptoSmall : (H : Type) → List (DataW H) → Bool := fun _ ds => decide (uptoBulkAll ds ≤ 1048576)
def OpenSpec.upto (s : _root_.Go.ChangeSpec) : _root_.Go.OpenSpec := { _root_.Go.OpenSpec.ofChange s with cond := some uptoSmall }

/-- 'freeholdlaw08.TransferStack', WHERE WHAT IT READS IS OF BULK AT MOST 1048576: true; the input reads as it did. -/
def transferStackUptoRow : OpenClaim := { program := "ythlmjdkpkikcpaa", sum := "f41f75207777f6b5aee03a29a84c9e8f94d441e80a22968bd17914c668cff820", func := "freehold/freeholdlaw08.TransferStack", spec := "transferStack", unfollowed := true, recurses := true, apart := false, narrowed := true }
def TransferStackUptoSaid : Prop := transferStackUptoRow.holds Try.pinned (OpenSpec.upto transferStackSpec)

/-- 'freeholdlaw08.TransferLow', WHERE WHAT IT READS IS OF BULK AT MOST 1048576: true; the input reads as it did. -/
def transferLowUptoRow : OpenClaim := { program := "ythlmjdkpkikcpaa", sum := "f41f75207777f6b5aee03a29a84c9e8f94d441e80a22968bd17914c668cff820", func := "freehold/freeholdlaw08.TransferLow", spec := "transferLow", unfollowed := true, recurses := true, apart := false, narrowed := true }
def TransferLowUptoSaid : Prop := transferLowUptoRow.holds Try.pinned (OpenSpec.upto transferLowSpec)

/-- 'freeholdlaw08.TransferIdle', WHERE WHAT IT READS IS OF BULK AT MOST 1048576: true; the input reads as it did. -/
def transferIdleUptoRow : OpenClaim := { program := "ythlmjdkpkikcpaa", sum := "f41f75207777f6b5aee03a29a84c9e8f94d441e80a22968bd17914c668cff820", func := "freehold/freeholdlaw08.TransferIdle", spec := "transferIdle", unfollowed := true, recurses := true, apart := false, narrowed := true }
def TransferIdleUptoSaid : Prop := transferIdleUptoRow.holds Try.pinned (OpenSpec.upto transferIdleSpec)

/-- 'freeholdlaw08.TransferPlays', WHERE WHAT IT READS IS OF BULK AT MOST 1048576: true; the input reads as it did. -/
def transferPlaysUptoRow : OpenClaim := { program := "ythlmjdkpkikcpaa", sum := "f41f75207777f6b5aee03a29a84c9e8f94d441e80a22968bd17914c668cff820", func := "freehold/freeholdlaw08.TransferPlays", spec := "transferPlays", unfollowed := true, recurses := true, apart := false, narrowed := true }
def TransferPlaysUptoSaid : Prop := transferPlaysUptoRow.holds Try.pinned (OpenSpec.upto transferPlaysSpec)

/-- 'freeholdlaw08.TransferNone', WHERE WHAT IT READS IS OF BULK AT MOST 1048576: true; the input reads as it did. -/
def transferNoneUptoRow : OpenClaim := { program := "ythlmjdkpkikcpaa", sum := "f41f75207777f6b5aee03a29a84c9e8f94d441e80a22968bd17914c668cff820", func := "freehold/freeholdlaw08.TransferNone", spec := "transferNone", unfollowed := true, recurses := true, apart := false, narrowed := true }
def TransferNoneUptoSaid : Prop := transferNoneUptoRow.holds Try.pinned (OpenSpec.upto transferNoneSpec)

/-- 'freeholdlaw08.TransferClones', WHERE WHAT IT READS IS OF BULK AT MOST 1048576: true; the input reads as it did. -/
def transferClonesUptoRow : OpenClaim := { program := "ythlmjdkpkikcpaa", sum := "f41f75207777f6b5aee03a29a84c9e8f94d441e80a22968bd17914c668cff820", func := "freehold/freeholdlaw08.TransferClones", spec := "transferClones", unfollowed := true, recurses := true, apart := false, narrowed := true }
def TransferClonesUptoSaid : Prop := transferClonesUptoRow.holds Try.pinned (OpenSpec.upto transferClonesSpec)

end Rows
end Go.Proofs.Ythlmjdkpkikcpaa
