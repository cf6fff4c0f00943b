/-
  The closed facts of the program that every row of this seat asks for: each a kernel fact of its own.
-/
import Derived.Test.YtcodjodhacjfeaaGreatDoorRows
import Derived.Test.YtcodjodhacjfeaaGreatDoorCards
import Derived.WalkKit
import Derived.OpenShut
import Derived.SevenTiedAt
namespace Go.Proofs.YtcodjodhacjfeaaGreatDoor.facts
theorem own : ownKnob Tryz.prog.godebug = none := by kernel_rfl
theorem laidOut : laidOutB Tryz.prog = true := by kernel_rfl
theorem rowed : mapsRowed Tryz.prog = true := by kernel_rfl
theorem plainKeys : Tryz.prog.plainKeys = Rows.sampleNoneRow.plainKeys := by kernel_rfl
theorem heard : Tryz.prog.stopsHeard = true := by kernel_rfl
theorem mayEnter : Tryz.prog.mayEnter = true := by kernel_rfl
theorem lifts : Tryz.prog.liftsFinal = Rows.sampleNoneRow.lifted := by kernel_rfl
theorem make : Tryz.prog.make = some Rows.sampleNoneRow.make := by kernel_rfl
theorem mainIs : Tryz.pinned.checked.prog.mainIs = some (true, "9b17e598764a5d1b4538e1ba3bc4b281b6165fa394191560104c103837acf0c4".toList) := by kernel_rfl
theorem looks : true = Tryz.pinned.checked.prog.looks [] := by kernel_rfl
end Go.Proofs.YtcodjodhacjfeaaGreatDoor.facts
