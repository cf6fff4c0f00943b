/-
  A region that draws its order and whose operations keep an assertion, each yielding one value in every world in which the assertion holds (the kit's law on quiet regions, at a class of worlds of one's own).
-/
import Derived.Test.YtcodjodhacjfeaaGreatDoorArr
import Derived.Deep.QuietTactic
namespace Go.Proofs.YtcodjodhacjfeaaGreatDoor
open Go.RowKit
theorem wp_region_qst {P : Program} {id : Nat} {Q : Exit → Act → World → Prop} {a : Act} {w : World} {l : List Oper} (C : World → Prop) (hm : P.follows .mixedOrders = true) (hB : Region.lexB .any l.toArray = true)
    (hC : C w.drew) (h : wpQuiet P l.toArray C (fun a' => ∀ w', C w' → Q .normal a' w') l a) : (Code.region id l.toArray true).wp P Q a w :=
  wp_region_quiet (C := C) hm hB hC (by simpa using h)
end Go.Proofs.YtcodjodhacjfeaaGreatDoor
