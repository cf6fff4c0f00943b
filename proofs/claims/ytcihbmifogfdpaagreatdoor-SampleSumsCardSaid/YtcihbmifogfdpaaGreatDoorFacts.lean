/-
  The closed facts of the program that every row of this seat asks for: each a kernel fact of its own.
-/
import Derived.Test.YtcihbmifogfdpaaGreatDoorRows
import Derived.Test.YtcihbmifogfdpaaGreatDoorCards
import Derived.WalkKit
import Derived.OpenShut
import Derived.SevenTiedAt
namespace Go.Proofs.YtcihbmifogfdpaaGreatDoor.facts
theorem own : ownKnob Tryz.prog.godebug = none := by kernel_rfl
theorem laidOut : laidOutB Tryz.prog = true := by kernel_rfl
theorem rowed : mapsRowed Tryz.prog = true := by kernel_rfl
theorem plainKeys : Tryz.prog.plainKeys = Rows.sampleOnceRow.plainKeys := by kernel_rfl
theorem heard : Tryz.prog.stopsHeard = true := by kernel_rfl
theorem mayEnter : Tryz.prog.mayEnter = true := by kernel_rfl
theorem lifts : Tryz.prog.liftsFinal = Rows.sampleOnceRow.lifted := by kernel_rfl
theorem make : Tryz.prog.make = some Rows.sampleOnceRow.make := by kernel_rfl
theorem mainIs : Tryz.pinned.checked.prog.mainIs = some (true, "3d96cfb6102b2faac6e5fe2ee42261854e4cc9fc0ca1f315ad7aa8a03fa5a3e1".toList) := by kernel_rfl
theorem looks : true = Tryz.pinned.checked.prog.looks [] := by kernel_rfl
end Go.Proofs.YtcihbmifogfdpaaGreatDoor.facts
