/-
  The examples of the chapter hold: awake, by the machine (the kernel's run).
-/
import Derived.Test.YtcihbmifogfdpaaGreatDoorO9
namespace Go.Proofs.YtcihbmifogfdpaaGreatDoor
open Go.RowKit
namespace Cl
theorem awake_run : (callA Tryz.prog ovA 2000 60 16 []).kont Bool 16 hGlobs 0 0 (fun a _ _ _ _ => some (isT a)) = some true := by decide +kernel
end Cl
end Go.Proofs.YtcihbmifogfdpaaGreatDoor
