/-
  The examples of the chapter hold: awake, in any world in which the packages' variables are as they are laid.
-/
import Derived.Test.YtcihbmifogfdpaaGreatDoorO10
namespace Go.Proofs.YtcihbmifogfdpaaGreatDoor
open Go.RowKit
set_option maxRecDepth 100000 in
theorem awake_any {w : World} (hg : Globs w) : Calls Tryz.prog 16 #[] w fun e w' => e = .returned (.bool true) ∧ Below w.heap.size w w' := by
  refine (Cl.closed_call (p := Cl.isT) Cl.follows Cl.noGo' w (Cl.ovA_ok hg) (Cl.hGlobs_ok hg) (args := []) (by simp) (Tryz.call16 _ _) Cl.awake_run).mono ?_
  rintro e w' ⟨v, v', h1, rfl, h2, h3⟩
  have := Cl.isT_eq h1
  subst this
  rw [h3 rfl]
  exact ⟨rfl, h2⟩
end Go.Proofs.YtcihbmifogfdpaaGreatDoor
