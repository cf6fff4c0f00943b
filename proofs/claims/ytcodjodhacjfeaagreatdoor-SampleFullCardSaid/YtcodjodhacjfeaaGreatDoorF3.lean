/-
  The small heap grants and takes back one more block of 25 to 32 bytes.
-/
import Derived.Test.YtcodjodhacjfeaaGreatDoorF
namespace Go.Proofs.YtcodjodhacjfeaaGreatDoor
open Go.RowKit
namespace Cl
theorem fin_run3 : (List.range 8).all (fun k => fin1 (k + 24)) = true := by decide +kernel
end Cl
end Go.Proofs.YtcodjodhacjfeaaGreatDoor
