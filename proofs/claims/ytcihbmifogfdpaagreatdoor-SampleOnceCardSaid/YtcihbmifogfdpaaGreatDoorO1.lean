/-
  What the seat's functions give that the machine does not carry out itself: abi.NoEscape.
-/
import Derived.Test.YtcihbmifogfdpaaGreatDoorK12
import Derived.Test.YtcihbmifogfdpaaGreatDoorProg
namespace Go.Proofs.YtcihbmifogfdpaaGreatDoor
open Go.RowKit
namespace Cl
/-- abi.NoEscape: its value is its argument -/
theorem noEscape_call (v : Value) (w : World) : (callFunc 212 #[v]).run Tryz.prog w = .ok (.value v) w := by
  have h1 : (Tryz.f212.name == "runtime.NumGoroutine") = false := by kernel_rfl
  have h2 : Tryz.f212.body.isNone = true := by kernel_rfl
  have h3 : Extern.findNext Tryz.f212 = none := by kernel_rfl
  have h4 : Extern.find Tryz.f212 = some Extern.AbiNoEscape.same := by kernel_rfl
  unfold callFunc
  have h1' : ¬ Tryz.f212.name = "runtime.NumGoroutine" := by simpa using h1
  simp only [Sem.run_bind, run_program, Result.andThen_ok, Tryz.func212, h1, Bool.false_eq_true, if_false, h2, if_true, run_mark, h3, h4, Sem.run_pure]
  rfl
end Cl
end Go.Proofs.YtcihbmifogfdpaaGreatDoor
