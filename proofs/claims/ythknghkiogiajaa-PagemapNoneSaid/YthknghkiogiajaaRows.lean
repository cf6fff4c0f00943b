/-
  No cell of these rows narrows 'for every input' (looked for: loops, veiled, ifaces, maps, wideKeys, modest, calm, conditions, laid).
  DERIVED. THE GIVEN ROWS OF THIS SEAT. 9 by the template 'for every input the law returns true; each argument reads behind the call as it read before'; 0 by the template 'total and deterministic' (their statements: YthknghkiogiajaaTotals.lean).
  GIVEN WITH THE SEED: the statements are not yours to turn. If you find one false, say at which input.
  Laid BY PROGRAM, IN A SANDBOX (cutbox-rows.mjs): the forced cells as the released guide's own fill.sh prints them over the translation b6ed036cc4cd2432… (all of the seat's roots in one cut). By AI agents, Wed Nov 11 2026. No macro, syntax, notation, axiom, sorry.
-/
import Derived.Test.YthknghkiogiajaaChecked
import GoSem.Claim
import GoSem.ClaimJoined
import GoSem.ClaimMapViews
import Derived.JoinedTies
import Derived.KernelRfl
namespace Go.Proofs.Ythknghkiogiajaa
/- THE CELL 'sum', in the pinned program and in every row, IS THE sha256 OF THE DUMP (.gsa) THAT YthknghkiogiajaaProg.lean LOADS. Nothing in Lean hashes anything: it is a label: what it is worth is what the hold of that sum in a sandbox is worth. -/
noncomputable def Try.pinned : Pinned := { name := "ythknghkiogiajaa", sum := "b6ed036cc4cd2432fc1419a9adcad35af64348c63b169b8b6f19aefc57723b04", checked := Try.checked }
namespace Rows
def none {H : Type} : Left H := { results := [], args := [] }

/-- 'freeholdlaw05.PagemapNumbers': WHATEVER THE INPUT: true; the input reads as it did. -/
def pagemapNumbersSpec : ChangeSpec := { name := "pagemapNumbers", fn := fun _ => fun
  | [d1, d2] => { results := [.lit (.bool true)], args := [d1, d2] }
  | _ => none }
def pagemapNumbersRow : OpenClaim := { program := "ythknghkiogiajaa", sum := "b6ed036cc4cd2432fc1419a9adcad35af64348c63b169b8b6f19aefc57723b04", func := "freehold/freeholdlaw05.PagemapNumbers", spec := "pagemapNumbers", apart := false }
def PagemapNumbersSaid : Prop := pagemapNumbersRow.holds Try.pinned (OpenSpec.ofChange pagemapNumbersSpec)

/-- ITS FALSE NEIGHBOUR: 'it returns false'. Refute it at one input. -/
def pagemapNumbersWrong : ChangeSpec := { name := "pagemapNumbers", fn := fun _ => fun
  | [d1, d2] => { results := [.lit (.bool false)], args := [d1, d2] }
  | _ => none }
def PagemapNumbersWrongFalsely : Prop := pagemapNumbersRow.holds Try.pinned (OpenSpec.ofChange pagemapNumbersWrong)

/-- 'freeholdlaw05.PagemapNext': WHATEVER THE INPUT: true; the input reads as it did. -/
def pagemapNextSpec : ChangeSpec := { name := "pagemapNext", fn := fun _ => fun
  | [d] => { results := [.lit (.bool true)], args := [d] }
  | _ => none }
def pagemapNextRow : OpenClaim := { program := "ythknghkiogiajaa", sum := "b6ed036cc4cd2432fc1419a9adcad35af64348c63b169b8b6f19aefc57723b04", func := "freehold/freeholdlaw05.PagemapNext", spec := "pagemapNext", apart := false }
def PagemapNextSaid : Prop := pagemapNextRow.holds Try.pinned (OpenSpec.ofChange pagemapNextSpec)

/-- ITS FALSE NEIGHBOUR: 'it returns false'. Refute it at one input. -/
def pagemapNextWrong : ChangeSpec := { name := "pagemapNext", fn := fun _ => fun
  | [d] => { results := [.lit (.bool false)], args := [d] }
  | _ => none }
def PagemapNextWrongFalsely : Prop := pagemapNextRow.holds Try.pinned (OpenSpec.ofChange pagemapNextWrong)

/-- 'freeholdlaw05.PagemapNodes': WHATEVER THE INPUT: true; the input reads as it did. -/
def pagemapNodesSpec : ChangeSpec := { name := "pagemapNodes", fn := fun _ => fun
  | [d] => { results := [.lit (.bool true)], args := [d] }
  | _ => none }
def pagemapNodesRow : OpenClaim := { program := "ythknghkiogiajaa", sum := "b6ed036cc4cd2432fc1419a9adcad35af64348c63b169b8b6f19aefc57723b04", func := "freehold/freeholdlaw05.PagemapNodes", spec := "pagemapNodes", apart := false }
def PagemapNodesSaid : Prop := pagemapNodesRow.holds Try.pinned (OpenSpec.ofChange pagemapNodesSpec)

/-- ITS FALSE NEIGHBOUR: 'it returns false'. Refute it at one input. -/
def pagemapNodesWrong : ChangeSpec := { name := "pagemapNodes", fn := fun _ => fun
  | [d] => { results := [.lit (.bool false)], args := [d] }
  | _ => none }
def PagemapNodesWrongFalsely : Prop := pagemapNodesRow.holds Try.pinned (OpenSpec.ofChange pagemapNodesWrong)

/-- 'freeholdlaw05.PagemapMarks': WHATEVER THE INPUT: true; the input reads as it did. -/
def pagemapMarksSpec : ChangeSpec := { name := "pagemapMarks", fn := fun _ => fun
  | [d] => { results := [.lit (.bool true)], args := [d] }
  | _ => none }
def pagemapMarksRow : OpenClaim := { program := "ythknghkiogiajaa", sum := "b6ed036cc4cd2432fc1419a9adcad35af64348c63b169b8b6f19aefc57723b04", func := "freehold/freeholdlaw05.PagemapMarks", spec := "pagemapMarks", apart := false }
def PagemapMarksSaid : Prop := pagemapMarksRow.holds Try.pinned (OpenSpec.ofChange pagemapMarksSpec)

/-- ITS FALSE NEIGHBOUR: 'it returns false'. Refute it at one input. -/
def pagemapMarksWrong : ChangeSpec := { name := "pagemapMarks", fn := fun _ => fun
  | [d] => { results := [.lit (.bool false)], args := [d] }
  | _ => none }
def PagemapMarksWrongFalsely : Prop := pagemapMarksRow.holds Try.pinned (OpenSpec.ofChange pagemapMarksWrong)

/-- 'freeholdlaw05.PagemapRefuses': WHATEVER THE INPUT: true; the input reads as it did. -/
def pagemapRefusesSpec : ChangeSpec := { name := "pagemapRefuses", fn := fun _ => fun
  | [d1, d2] => { results := [.lit (.bool true)], args := [d1, d2] }
  | _ => none }
def pagemapRefusesRow : OpenClaim := { program := "ythknghkiogiajaa", sum := "b6ed036cc4cd2432fc1419a9adcad35af64348c63b169b8b6f19aefc57723b04", func := "freehold/freeholdlaw05.PagemapRefuses", spec := "pagemapRefuses", apart := false }
def PagemapRefusesSaid : Prop := pagemapRefusesRow.holds Try.pinned (OpenSpec.ofChange pagemapRefusesSpec)

/-- ITS FALSE NEIGHBOUR: 'it returns false'. Refute it at one input. -/
def pagemapRefusesWrong : ChangeSpec := { name := "pagemapRefuses", fn := fun _ => fun
  | [d1, d2] => { results := [.lit (.bool false)], args := [d1, d2] }
  | _ => none }
def PagemapRefusesWrongFalsely : Prop := pagemapRefusesRow.holds Try.pinned (OpenSpec.ofChange pagemapRefusesWrong)

/-- 'freeholdlaw05.PagemapPlays': WHATEVER THE INPUT: true; the input reads as it did. -/
def pagemapPlaysSpec : ChangeSpec := { name := "pagemapPlays", fn := fun _ => fun
  | [d1, d2] => { results := [.lit (.bool true)], args := [d1, d2] }
  | _ => none }
def pagemapPlaysRow : OpenClaim := { program := "ythknghkiogiajaa", sum := "b6ed036cc4cd2432fc1419a9adcad35af64348c63b169b8b6f19aefc57723b04", func := "freehold/freeholdlaw05.PagemapPlays", spec := "pagemapPlays", apart := false }
def PagemapPlaysSaid : Prop := pagemapPlaysRow.holds Try.pinned (OpenSpec.ofChange pagemapPlaysSpec)

/-- ITS FALSE NEIGHBOUR: 'it returns false'. Refute it at one input. -/
def pagemapPlaysWrong : ChangeSpec := { name := "pagemapPlays", fn := fun _ => fun
  | [d1, d2] => { results := [.lit (.bool false)], args := [d1, d2] }
  | _ => none }
def PagemapPlaysWrongFalsely : Prop := pagemapPlaysRow.holds Try.pinned (OpenSpec.ofChange pagemapPlaysWrong)

/-- 'freeholdlaw05.PagemapNone': WHATEVER THE INPUT: true; the input reads as it did. -/
def pagemapNoneSpec : ChangeSpec := { name := "pagemapNone", fn := fun _ => fun
  | [d1, d2] => { results := [.lit (.bool true)], args := [d1, d2] }
  | _ => none }
def pagemapNoneRow : OpenClaim := { program := "ythknghkiogiajaa", sum := "b6ed036cc4cd2432fc1419a9adcad35af64348c63b169b8b6f19aefc57723b04", func := "freehold/freeholdlaw05.PagemapNone", spec := "pagemapNone", apart := false }
def PagemapNoneSaid : Prop := pagemapNoneRow.holds Try.pinned (OpenSpec.ofChange pagemapNoneSpec)

/-- ITS FALSE NEIGHBOUR: 'it returns false'. Refute it at one input. -/
def pagemapNoneWrong : ChangeSpec := { name := "pagemapNone", fn := fun _ => fun
  | [d1, d2] => { results := [.lit (.bool false)], args := [d1, d2] }
  | _ => none }
def PagemapNoneWrongFalsely : Prop := pagemapNoneRow.holds Try.pinned (OpenSpec.ofChange pagemapNoneWrong)

/-- 'freeholdlaw05.PagemapSames': WHATEVER THE INPUT: true; the input reads as it did. -/
def pagemapSamesSpec : ChangeSpec := { name := "pagemapSames", fn := fun _ => fun
  | [d1, d2] => { results := [.lit (.bool true)], args := [d1, d2] }
  | _ => none }
def pagemapSamesRow : OpenClaim := { program := "ythknghkiogiajaa", sum := "b6ed036cc4cd2432fc1419a9adcad35af64348c63b169b8b6f19aefc57723b04", func := "freehold/freeholdlaw05.PagemapSames", spec := "pagemapSames", apart := false }
def PagemapSamesSaid : Prop := pagemapSamesRow.holds Try.pinned (OpenSpec.ofChange pagemapSamesSpec)

/-- ITS FALSE NEIGHBOUR: 'it returns false'. Refute it at one input. -/
def pagemapSamesWrong : ChangeSpec := { name := "pagemapSames", fn := fun _ => fun
  | [d1, d2] => { results := [.lit (.bool false)], args := [d1, d2] }
  | _ => none }
def PagemapSamesWrongFalsely : Prop := pagemapSamesRow.holds Try.pinned (OpenSpec.ofChange pagemapSamesWrong)

/-- 'freeholdlaw05.PagemapClones': WHATEVER THE INPUT: true; the input reads as it did. -/
def pagemapClonesSpec : ChangeSpec := { name := "pagemapClones", fn := fun _ => fun
  | [d1, d2, d3] => { results := [.lit (.bool true)], args := [d1, d2, d3] }
  | _ => none }
def pagemapClonesRow : OpenClaim := { program := "ythknghkiogiajaa", sum := "b6ed036cc4cd2432fc1419a9adcad35af64348c63b169b8b6f19aefc57723b04", func := "freehold/freeholdlaw05.PagemapClones", spec := "pagemapClones", apart := false }
def PagemapClonesSaid : Prop := pagemapClonesRow.holds Try.pinned (OpenSpec.ofChange pagemapClonesSpec)

/-- ITS FALSE NEIGHBOUR: 'it returns false'. Refute it at one input. -/
def pagemapClonesWrong : ChangeSpec := { name := "pagemapClones", fn := fun _ => fun
  | [d1, d2, d3] => { results := [.lit (.bool false)], args := [d1, d2, d3] }
  | _ => none }
def PagemapClonesWrongFalsely : Prop := pagemapClonesRow.holds Try.pinned (OpenSpec.ofChange pagemapClonesWrong)

/- THE SECOND FORM. 'bulk': how many values and letters a reading holds, each counted each time it is reached (what is shared counts as often as it is met; a slice's spare places count too). A statement '..UptoSaid' is the law's where the arguments, and the package variables that the reading takes, are together of bulk at most 1048576: NARROWER than '..Said'. Prove '..Said' where nothing that the law and all that it calls make is longer than what came in: it says more and counts as full. Else prove '..UptoSaid'. A law counts once. -/
mutual
def uptoBulk {H : Type} : DataW H → Nat
  | .lit (.string bytes) => bytes.length + 1
  | .lit _ => 1
  | .nil => 1
  | .ptr d => uptoBulk d + 1
  | .slice elems spare => uptoBulkAll elems + uptoBulkAll spare + 1
  | .agg parts => uptoBulkAll parts + 1
  | .iface _ d => uptoBulk d + 1
  | .map entries => uptoBulkEntries entries + 1
  | .held _ => 1
def uptoBulkAll {H : Type} : List (DataW H) → Nat
  | [] => 0
  | d :: r => uptoBulk d + uptoBulkAll r
def uptoBulkEntries {H : Type} : List (Lit × DataW H) → Nat
  | [] => 0
  | x :: r => uptoBulkEntry x + uptoBulkEntries r
def uptoBulkEntry {H : Type} : Lit × DataW H → Nat
  | (.string bytes, d) => bytes.length + uptoBulk d + 1
  | (_, d) => uptoBulk d + 1
 end
def uptoSmall : (H : Type) → List (DataW H) → Bool := fun _ ds => decide (uptoBulkAll ds ≤ 1048576)
def OpenSpec.upto (s : _root_.Go.ChangeSpec) : _root_.Go.OpenSpec := { _root_.Go.OpenSpec.ofChange s with cond := some uptoSmall }

/-- 'freeholdlaw05.PagemapNumbers', WHERE WHAT IT READS IS OF BULK AT MOST 1048576: true; the input reads as it did. -/
def pagemapNumbersUptoRow : OpenClaim := { program := "ythknghkiogiajaa", sum := "b6ed036cc4cd2432fc1419a9adcad35af64348c63b169b8b6f19aefc57723b04", func := "freehold/freeholdlaw05.PagemapNumbers", spec := "pagemapNumbers", apart := false, narrowed := true }
def PagemapNumbersUptoSaid : Prop := pagemapNumbersUptoRow.holds Try.pinned (OpenSpec.upto pagemapNumbersSpec)

/-- 'freeholdlaw05.PagemapNext', WHERE WHAT IT READS IS OF BULK AT MOST 1048576: true; the input reads as it did. -/
def pagemapNextUptoRow : OpenClaim := { program := "ythknghkiogiajaa", sum := "b6ed036cc4cd2432fc1419a9adcad35af64348c63b169b8b6f19aefc57723b04", func := "freehold/freeholdlaw05.PagemapNext", spec := "pagemapNext", apart := false, narrowed := true }
def PagemapNextUptoSaid : Prop := pagemapNextUptoRow.holds Try.pinned (OpenSpec.upto pagemapNextSpec)

/-- 'freeholdlaw05.PagemapNodes', WHERE WHAT IT READS IS OF BULK AT MOST 1048576: true; the input reads as it did. -/
def pagemapNodesUptoRow : OpenClaim := { program := "ythknghkiogiajaa", sum := "b6ed036cc4cd2432fc1419a9adcad35af64348c63b169b8b6f19aefc57723b04", func := "freehold/freeholdlaw05.PagemapNodes", spec := "pagemapNodes", apart := false, narrowed := true }
def PagemapNodesUptoSaid : Prop := pagemapNodesUptoRow.holds Try.pinned (OpenSpec.upto pagemapNodesSpec)

/-- 'freeholdlaw05.PagemapMarks', WHERE WHAT IT READS IS OF BULK AT MOST 1048576: true; the input reads as it did. -/
def pagemapMarksUptoRow : OpenClaim := { program := "ythknghkiogiajaa", sum := "b6ed036cc4cd2432fc1419a9adcad35af64348c63b169b8b6f19aefc57723b04", func := "freehold/freeholdlaw05.PagemapMarks", spec := "pagemapMarks", apart := false, narrowed := true }
def PagemapMarksUptoSaid : Prop := pagemapMarksUptoRow.holds Try.pinned (OpenSpec.upto pagemapMarksSpec)

/-- 'freeholdlaw05.PagemapRefuses', WHERE WHAT IT READS IS OF BULK AT MOST 1048576: true; the input reads as it did. -/
def pagemapRefusesUptoRow : OpenClaim := { program := "ythknghkiogiajaa", sum := "b6ed036cc4cd2432fc1419a9adcad35af64348c63b169b8b6f19aefc57723b04", func := "freehold/freeholdlaw05.PagemapRefuses", spec := "pagemapRefuses", apart := false, narrowed := true }
def PagemapRefusesUptoSaid : Prop := pagemapRefusesUptoRow.holds Try.pinned (OpenSpec.upto pagemapRefusesSpec)

/-- 'freeholdlaw05.PagemapPlays', WHERE WHAT IT READS IS OF BULK AT MOST 1048576: true; the input reads as it did. -/
def pagemapPlaysUptoRow : OpenClaim := { program := "ythknghkiogiajaa", sum := "b6ed036cc4cd2432fc1419a9adcad35af64348c63b169b8b6f19aefc57723b04", func := "freehold/freeholdlaw05.PagemapPlays", spec := "pagemapPlays", apart := false, narrowed := true }
def PagemapPlaysUptoSaid : Prop := pagemapPlaysUptoRow.holds Try.pinned (OpenSpec.upto pagemapPlaysSpec)

/-- 'freeholdlaw05.PagemapNone', WHERE WHAT IT READS IS OF BULK AT MOST 1048576: true; the input reads as it did. -/
def pagemapNoneUptoRow : OpenClaim := { program := "ythknghkiogiajaa", sum := "b6ed036cc4cd2432fc1419a9adcad35af64348c63b169b8b6f19aefc57723b04", func := "freehold/freeholdlaw05.PagemapNone", spec := "pagemapNone", apart := false, narrowed := true }
def PagemapNoneUptoSaid : Prop := pagemapNoneUptoRow.holds Try.pinned (OpenSpec.upto pagemapNoneSpec)

/-- 'freeholdlaw05.PagemapSames', WHERE WHAT IT READS IS OF BULK AT MOST 1048576: true; the input reads as it did. -/
def pagemapSamesUptoRow : OpenClaim := { program := "ythknghkiogiajaa", sum := "b6ed036cc4cd2432fc1419a9adcad35af64348c63b169b8b6f19aefc57723b04", func := "freehold/freeholdlaw05.PagemapSames", spec := "pagemapSames", apart := false, narrowed := true }
def PagemapSamesUptoSaid : Prop := pagemapSamesUptoRow.holds Try.pinned (OpenSpec.upto pagemapSamesSpec)

/-- 'freeholdlaw05.PagemapClones', WHERE WHAT IT READS IS OF BULK AT MOST 1048576: true; the input reads as it did. -/
def pagemapClonesUptoRow : OpenClaim := { program := "ythknghkiogiajaa", sum := "b6ed036cc4cd2432fc1419a9adcad35af64348c63b169b8b6f19aefc57723b04", func := "freehold/freeholdlaw05.PagemapClones", spec := "pagemapClones", apart := false, narrowed := true }
def PagemapClonesUptoSaid : Prop := pagemapClonesUptoRow.holds Try.pinned (OpenSpec.upto pagemapClonesSpec)

end Rows
end Go.Proofs.Ythknghkiogiajaa
