/-
  The small heap grants and takes back one more block of 9 to 16 bytes.
-/
import Derived.Test.YtcodjodhacjfeaaGreatDoorF
namespace Go.Proofs.YtcodjodhacjfeaaGreatDoor
open Go.RowKit
namespace Cl
theorem fin_run1 : (List.range 8).all (fun k => fin1 (k + 8)) = true := by decide +kernel
end Cl
end Go.Proofs.YtcodjodhacjfeaaGreatDoor
