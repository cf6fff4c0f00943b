/-
  The small heap grants and takes back one more block of 1 to 8 bytes.
-/
import Derived.Test.YtcodjodhacjfeaaGreatDoorF
namespace Go.Proofs.YtcodjodhacjfeaaGreatDoor
open Go.RowKit
namespace Cl
theorem fin_run0 : (List.range 8).all (fun k => fin1 (k + 0)) = true := by decide +kernel
end Cl
end Go.Proofs.YtcodjodhacjfeaaGreatDoor
