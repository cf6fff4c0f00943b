/-
  No cell of these rows narrows 'for every input' (looked for: loops, veiled, ifaces, maps, wideKeys, modest, calm, conditions, laid).
  DERIVED. THE GIVEN ROWS OF THIS SEAT. 9 by the template 'for every input the law returns true; each argument reads behind the call as it read before'; 0 by the template 'total and deterministic' (their statements: YtjignbbdgoadjaaTotals.lean).
  GIVEN WITH THE SEED: the statements are not yours to turn. If you find one false, say at which input.
  Laid BY PROGRAM, IN A SANDBOX (cutbox-rows.mjs): the forced cells as the released guide's own fill.sh prints them over the translation 20aea16775d3c51d… (all of the seat's roots in one cut). By AI agents, Wed Nov 11 2026. No macro, syntax, notation, axiom, sorry.
-/
import Derived.Test.YtjignbbdgoadjaaChecked
import GoSem.Claim
import GoSem.ClaimJoined
import GoSem.ClaimMapViews
import Derived.JoinedTies
import Derived.KernelRfl
namespace Go.Proofs.Ytjignbbdgoadjaa
/- THE CELL 'sum', in the pinned program and in every row, IS THE sha256 OF THE DUMP (.gsa) THAT YtjignbbdgoadjaaProg.lean LOADS. Nothing in Lean hashes anything: it is a label: what it is worth is what the hold of that sum in a sandbox is worth. -/
noncomputable def Try.pinned : Pinned := { name := "ytjignbbdgoadjaa", sum := "20aea16775d3c51dc9736e1a0aadce19f1caee76b17bb19e6ccd826d2703ed2c", checked := Try.checked }
namespace Rows
def none {H : Type} : Left H := { results := [], args := [] }

/-- 'freeholdlaw04.HugeFew': WHATEVER THE INPUT: true; the input reads as it did. -/
def hugeFewSpec : ChangeSpec := { name := "hugeFew", fn := fun _ => fun
  | [d1, d2, d3] => { results := [.lit (.bool true)], args := [d1, d2, d3] }
  | _ => none }
def hugeFewRow : OpenClaim := { program := "ytjignbbdgoadjaa", sum := "20aea16775d3c51dc9736e1a0aadce19f1caee76b17bb19e6ccd826d2703ed2c", func := "freehold/freeholdlaw04.HugeFew", spec := "hugeFew", unfollowed := true, recurses := true, apart := false }
def HugeFewSaid : Prop := hugeFewRow.holds Try.pinned (OpenSpec.ofChange hugeFewSpec)

/-- ITS FALSE NEIGHBOUR: 'it returns false'. Refute it at one input. -/
def hugeFewWrong : ChangeSpec := { name := "hugeFew", fn := fun _ => fun
  | [d1, d2, d3] => { results := [.lit (.bool false)], args := [d1, d2, d3] }
  | _ => none }
def HugeFewWrongFalsely : Prop := hugeFewRow.holds Try.pinned (OpenSpec.ofChange hugeFewWrong)

/-- 'freeholdlaw04.HugeStates': WHATEVER THE INPUT: true; the input reads as it did. -/
def hugeStatesSpec : ChangeSpec := { name := "hugeStates", fn := fun _ => fun
  | [d1, d2] => { results := [.lit (.bool true)], args := [d1, d2] }
  | _ => none }
def hugeStatesRow : OpenClaim := { program := "ytjignbbdgoadjaa", sum := "20aea16775d3c51dc9736e1a0aadce19f1caee76b17bb19e6ccd826d2703ed2c", func := "freehold/freeholdlaw04.HugeStates", spec := "hugeStates", unfollowed := true, recurses := true, apart := false }
def HugeStatesSaid : Prop := hugeStatesRow.holds Try.pinned (OpenSpec.ofChange hugeStatesSpec)

/-- ITS FALSE NEIGHBOUR: 'it returns false'. Refute it at one input. -/
def hugeStatesWrong : ChangeSpec := { name := "hugeStates", fn := fun _ => fun
  | [d1, d2] => { results := [.lit (.bool false)], args := [d1, d2] }
  | _ => none }
def HugeStatesWrongFalsely : Prop := hugeStatesRow.holds Try.pinned (OpenSpec.ofChange hugeStatesWrong)

/-- 'freeholdlaw04.HugeKept': WHATEVER THE INPUT: true; the input reads as it did. -/
def hugeKeptSpec : ChangeSpec := { name := "hugeKept", fn := fun _ => fun
  | [d1, d2, d3] => { results := [.lit (.bool true)], args := [d1, d2, d3] }
  | _ => none }
def hugeKeptRow : OpenClaim := { program := "ytjignbbdgoadjaa", sum := "20aea16775d3c51dc9736e1a0aadce19f1caee76b17bb19e6ccd826d2703ed2c", func := "freehold/freeholdlaw04.HugeKept", spec := "hugeKept", unfollowed := true, recurses := true, apart := false }
def HugeKeptSaid : Prop := hugeKeptRow.holds Try.pinned (OpenSpec.ofChange hugeKeptSpec)

/-- ITS FALSE NEIGHBOUR: 'it returns false'. Refute it at one input. -/
def hugeKeptWrong : ChangeSpec := { name := "hugeKept", fn := fun _ => fun
  | [d1, d2, d3] => { results := [.lit (.bool false)], args := [d1, d2, d3] }
  | _ => none }
def HugeKeptWrongFalsely : Prop := hugeKeptRow.holds Try.pinned (OpenSpec.ofChange hugeKeptWrong)

/-- 'freeholdlaw04.HugeBack': WHATEVER THE INPUT: true; the input reads as it did. -/
def hugeBackSpec : ChangeSpec := { name := "hugeBack", fn := fun _ => fun
  | [d1, d2, d3, d4, d5] => { results := [.lit (.bool true)], args := [d1, d2, d3, d4, d5] }
  | _ => none }
def hugeBackRow : OpenClaim := { program := "ytjignbbdgoadjaa", sum := "20aea16775d3c51dc9736e1a0aadce19f1caee76b17bb19e6ccd826d2703ed2c", func := "freehold/freeholdlaw04.HugeBack", spec := "hugeBack", unfollowed := true, recurses := true, apart := false }
def HugeBackSaid : Prop := hugeBackRow.holds Try.pinned (OpenSpec.ofChange hugeBackSpec)

/-- ITS FALSE NEIGHBOUR: 'it returns false'. Refute it at one input. -/
def hugeBackWrong : ChangeSpec := { name := "hugeBack", fn := fun _ => fun
  | [d1, d2, d3, d4, d5] => { results := [.lit (.bool false)], args := [d1, d2, d3, d4, d5] }
  | _ => none }
def HugeBackWrongFalsely : Prop := hugeBackRow.holds Try.pinned (OpenSpec.ofChange hugeBackWrong)

/-- 'freeholdlaw04.HugeRefuses': WHATEVER THE INPUT: true; the input reads as it did. -/
def hugeRefusesSpec : ChangeSpec := { name := "hugeRefuses", fn := fun _ => fun
  | [d1, d2, d3] => { results := [.lit (.bool true)], args := [d1, d2, d3] }
  | _ => none }
def hugeRefusesRow : OpenClaim := { program := "ytjignbbdgoadjaa", sum := "20aea16775d3c51dc9736e1a0aadce19f1caee76b17bb19e6ccd826d2703ed2c", func := "freehold/freeholdlaw04.HugeRefuses", spec := "hugeRefuses", unfollowed := true, recurses := true, apart := false }
def HugeRefusesSaid : Prop := hugeRefusesRow.holds Try.pinned (OpenSpec.ofChange hugeRefusesSpec)

/-- ITS FALSE NEIGHBOUR: 'it returns false'. Refute it at one input. -/
def hugeRefusesWrong : ChangeSpec := { name := "hugeRefuses", fn := fun _ => fun
  | [d1, d2, d3] => { results := [.lit (.bool false)], args := [d1, d2, d3] }
  | _ => none }
def HugeRefusesWrongFalsely : Prop := hugeRefusesRow.holds Try.pinned (OpenSpec.ofChange hugeRefusesWrong)

/-- 'freeholdlaw04.HugeClones': WHATEVER THE INPUT: true; the input reads as it did. -/
def hugeClonesSpec : ChangeSpec := { name := "hugeClones", fn := fun _ => fun
  | [d1, d2, d3, d4] => { results := [.lit (.bool true)], args := [d1, d2, d3, d4] }
  | _ => none }
def hugeClonesRow : OpenClaim := { program := "ytjignbbdgoadjaa", sum := "20aea16775d3c51dc9736e1a0aadce19f1caee76b17bb19e6ccd826d2703ed2c", func := "freehold/freeholdlaw04.HugeClones", spec := "hugeClones", unfollowed := true, recurses := true, apart := false }
def HugeClonesSaid : Prop := hugeClonesRow.holds Try.pinned (OpenSpec.ofChange hugeClonesSpec)

/-- ITS FALSE NEIGHBOUR: 'it returns false'. Refute it at one input. -/
def hugeClonesWrong : ChangeSpec := { name := "hugeClones", fn := fun _ => fun
  | [d1, d2, d3, d4] => { results := [.lit (.bool false)], args := [d1, d2, d3, d4] }
  | _ => none }
def HugeClonesWrongFalsely : Prop := hugeClonesRow.holds Try.pinned (OpenSpec.ofChange hugeClonesWrong)

/-- 'freeholdlaw04.HugePlans': WHATEVER THE INPUT: true; the input reads as it did. -/
def hugePlansSpec : ChangeSpec := { name := "hugePlans", fn := fun _ => fun
  | [d1, d2, d3] => { results := [.lit (.bool true)], args := [d1, d2, d3] }
  | _ => none }
def hugePlansRow : OpenClaim := { program := "ytjignbbdgoadjaa", sum := "20aea16775d3c51dc9736e1a0aadce19f1caee76b17bb19e6ccd826d2703ed2c", func := "freehold/freeholdlaw04.HugePlans", spec := "hugePlans", unfollowed := true, recurses := true, apart := false }
def HugePlansSaid : Prop := hugePlansRow.holds Try.pinned (OpenSpec.ofChange hugePlansSpec)

/-- ITS FALSE NEIGHBOUR: 'it returns false'. Refute it at one input. -/
def hugePlansWrong : ChangeSpec := { name := "hugePlans", fn := fun _ => fun
  | [d1, d2, d3] => { results := [.lit (.bool false)], args := [d1, d2, d3] }
  | _ => none }
def HugePlansWrongFalsely : Prop := hugePlansRow.holds Try.pinned (OpenSpec.ofChange hugePlansWrong)

/-- 'freeholdlaw04.HugePlays': WHATEVER THE INPUT: true; the input reads as it did. -/
def hugePlaysSpec : ChangeSpec := { name := "hugePlays", fn := fun _ => fun
  | [d1, d2, d3] => { results := [.lit (.bool true)], args := [d1, d2, d3] }
  | _ => none }
def hugePlaysRow : OpenClaim := { program := "ytjignbbdgoadjaa", sum := "20aea16775d3c51dc9736e1a0aadce19f1caee76b17bb19e6ccd826d2703ed2c", func := "freehold/freeholdlaw04.HugePlays", spec := "hugePlays", unfollowed := true, recurses := true, apart := false }
def HugePlaysSaid : Prop := hugePlaysRow.holds Try.pinned (OpenSpec.ofChange hugePlaysSpec)

/-- ITS FALSE NEIGHBOUR: 'it returns false'. Refute it at one input. -/
def hugePlaysWrong : ChangeSpec := { name := "hugePlays", fn := fun _ => fun
  | [d1, d2, d3] => { results := [.lit (.bool false)], args := [d1, d2, d3] }
  | _ => none }
def HugePlaysWrongFalsely : Prop := hugePlaysRow.holds Try.pinned (OpenSpec.ofChange hugePlaysWrong)

/-- 'freeholdlaw04.HugeNone': WHATEVER THE INPUT: true; the input reads as it did. -/
def hugeNoneSpec : ChangeSpec := { name := "hugeNone", fn := fun _ => fun
  | [d] => { results := [.lit (.bool true)], args := [d] }
  | _ => none }
def hugeNoneRow : OpenClaim := { program := "ytjignbbdgoadjaa", sum := "20aea16775d3c51dc9736e1a0aadce19f1caee76b17bb19e6ccd826d2703ed2c", func := "freehold/freeholdlaw04.HugeNone", spec := "hugeNone", unfollowed := true, recurses := true, apart := false }
def HugeNoneSaid : Prop := hugeNoneRow.holds Try.pinned (OpenSpec.ofChange hugeNoneSpec)

/-- ITS FALSE NEIGHBOUR: 'it returns false'. Refute it at one input. -/
def hugeNoneWrong : ChangeSpec := { name := "hugeNone", fn := fun _ => fun
  | [d] => { results := [.lit (.bool false)], args := [d] }
  | _ => none }
def HugeNoneWrongFalsely : Prop := hugeNoneRow.holds Try.pinned (OpenSpec.ofChange hugeNoneWrong)

/- THE SECOND FORM. 'bulk': how many values and letters a reading holds, each counted each time it is reached (what is shared counts as often as it is met; a slice's spare places count too). A statement '..UptoSaid' is the law's where the arguments, and the package variables that the reading takes, are together of bulk at most 1048576: NARROWER than '..Said'. Prove '..Said' where nothing that the law and all that it calls make is longer than what came in: it says more and counts as full. Else prove '..UptoSaid'. A law counts once. -/
mutual
def uptoBulk {H : Type} : DataW H → Nat
  | .lit (.string bytes) => bytes.length + 1
  | .lit _ => 1
  | .nil => 1
  | .ptr d => uptoBulk d + 1
  | .slice elems spare => uptoBulkAll elems + uptoBulkAll spare + 1
  | .agg parts => uptoBulkAll parts + 1
  | .iface _ d => uptoBulk d + 1
  | .map entries => uptoBulkEntries entries + 1
  | .held _ => 1
def uptoBulkAll {H : Type} : List (DataW H) → Nat
  | [] => 0
  | d :: r => uptoBulk d + uptoBulkAll r
def uptoBulkEntries {H : Type} : List (Lit × DataW H) → Nat
  | [] => 0
  | x :: r => uptoBulkEntry x + uptoBulkEntries r
def uptoBulkEntry {H : Type} : Lit × DataW H → Nat
  | (.string bytes, d) => bytes.length + uptoBulk d + 1
  | (_, d) => uptoBulk d + 1
 end
def uptoSmall : (H : Type) → List (DataW H) → Bool := fun _ ds => decide (uptoBulkAll ds ≤ 1048576)
def OpenSpec.upto (s : _root_.Go.ChangeSpec) : _root_.Go.OpenSpec := { _root_.Go.OpenSpec.ofChange s with cond := some uptoSmall }

/-- 'freeholdlaw04.HugeFew', WHERE WHAT IT READS IS OF BULK AT MOST 1048576: true; the input reads as it did. -/
def hugeFewUptoRow : OpenClaim := { program := "ytjignbbdgoadjaa", sum := "20aea16775d3c51dc9736e1a0aadce19f1caee76b17bb19e6ccd826d2703ed2c", func := "freehold/freeholdlaw04.HugeFew", spec := "hugeFew", unfollowed := true, recurses := true, apart := false, narrowed := true }
def HugeFewUptoSaid : Prop := hugeFewUptoRow.holds Try.pinned (OpenSpec.upto hugeFewSpec)

/-- 'freeholdlaw04.HugeStates', WHERE WHAT IT READS IS OF BULK AT MOST 1048576: true; the input reads as it did. -/
def hugeStatesUptoRow : OpenClaim := { program := "ytjignbbdgoadjaa", sum := "20aea16775d3c51dc9736e1a0aadce19f1caee76b17bb19e6ccd826d2703ed2c", func := "freehold/freeholdlaw04.HugeStates", spec := "hugeStates", unfollowed := true, recurses := true, apart := false, narrowed := true }
def HugeStatesUptoSaid : Prop := hugeStatesUptoRow.holds Try.pinned (OpenSpec.upto hugeStatesSpec)

/-- 'freeholdlaw04.HugeKept', WHERE WHAT IT READS IS OF BULK AT MOST 1048576: true; the input reads as it did. -/
def hugeKeptUptoRow : OpenClaim := { program := "ytjignbbdgoadjaa", sum := "20aea16775d3c51dc9736e1a0aadce19f1caee76b17bb19e6ccd826d2703ed2c", func := "freehold/freeholdlaw04.HugeKept", spec := "hugeKept", unfollowed := true, recurses := true, apart := false, narrowed := true }
def HugeKeptUptoSaid : Prop := hugeKeptUptoRow.holds Try.pinned (OpenSpec.upto hugeKeptSpec)

/-- 'freeholdlaw04.HugeBack', WHERE WHAT IT READS IS OF BULK AT MOST 1048576: true; the input reads as it did. -/
def hugeBackUptoRow : OpenClaim := { program := "ytjignbbdgoadjaa", sum := "20aea16775d3c51dc9736e1a0aadce19f1caee76b17bb19e6ccd826d2703ed2c", func := "freehold/freeholdlaw04.HugeBack", spec := "hugeBack", unfollowed := true, recurses := true, apart := false, narrowed := true }
def HugeBackUptoSaid : Prop := hugeBackUptoRow.holds Try.pinned (OpenSpec.upto hugeBackSpec)

/-- 'freeholdlaw04.HugeRefuses', WHERE WHAT IT READS IS OF BULK AT MOST 1048576: true; the input reads as it did. -/
def hugeRefusesUptoRow : OpenClaim := { program := "ytjignbbdgoadjaa", sum := "20aea16775d3c51dc9736e1a0aadce19f1caee76b17bb19e6ccd826d2703ed2c", func := "freehold/freeholdlaw04.HugeRefuses", spec := "hugeRefuses", unfollowed := true, recurses := true, apart := false, narrowed := true }
def HugeRefusesUptoSaid : Prop := hugeRefusesUptoRow.holds Try.pinned (OpenSpec.upto hugeRefusesSpec)

/-- 'freeholdlaw04.HugeClones', WHERE WHAT IT READS IS OF BULK AT MOST 1048576: true; the input reads as it did. -/
def hugeClonesUptoRow : OpenClaim := { program := "ytjignbbdgoadjaa", sum := "20aea16775d3c51dc9736e1a0aadce19f1caee76b17bb19e6ccd826d2703ed2c", func := "freehold/freeholdlaw04.HugeClones", spec := "hugeClones", unfollowed := true, recurses := true, apart := false, narrowed := true }
def HugeClonesUptoSaid : Prop := hugeClonesUptoRow.holds Try.pinned (OpenSpec.upto hugeClonesSpec)

/-- 'freeholdlaw04.HugePlans', WHERE WHAT IT READS IS OF BULK AT MOST 1048576: true; the input reads as it did. -/
def hugePlansUptoRow : OpenClaim := { program := "ytjignbbdgoadjaa", sum := "20aea16775d3c51dc9736e1a0aadce19f1caee76b17bb19e6ccd826d2703ed2c", func := "freehold/freeholdlaw04.HugePlans", spec := "hugePlans", unfollowed := true, recurses := true, apart := false, narrowed := true }
def HugePlansUptoSaid : Prop := hugePlansUptoRow.holds Try.pinned (OpenSpec.upto hugePlansSpec)

/-- 'freeholdlaw04.HugePlays', WHERE WHAT IT READS IS OF BULK AT MOST 1048576: true; the input reads as it did. -/
def hugePlaysUptoRow : OpenClaim := { program := "ytjignbbdgoadjaa", sum := "20aea16775d3c51dc9736e1a0aadce19f1caee76b17bb19e6ccd826d2703ed2c", func := "freehold/freeholdlaw04.HugePlays", spec := "hugePlays", unfollowed := true, recurses := true, apart := false, narrowed := true }
def HugePlaysUptoSaid : Prop := hugePlaysUptoRow.holds Try.pinned (OpenSpec.upto hugePlaysSpec)

/-- 'freeholdlaw04.HugeNone', WHERE WHAT IT READS IS OF BULK AT MOST 1048576: true; the input reads as it did. -/
def hugeNoneUptoRow : OpenClaim := { program := "ytjignbbdgoadjaa", sum := "20aea16775d3c51dc9736e1a0aadce19f1caee76b17bb19e6ccd826d2703ed2c", func := "freehold/freeholdlaw04.HugeNone", spec := "hugeNone", unfollowed := true, recurses := true, apart := false, narrowed := true }
def HugeNoneUptoSaid : Prop := hugeNoneUptoRow.holds Try.pinned (OpenSpec.upto hugeNoneSpec)

end Rows
end Go.Proofs.Ytjignbbdgoadjaa
