/-
  The shelf's contracts for the keys of maps, laid over the seat's program.
-/
import Derived.Shelf.SlIter.Sorted
import Derived.Shelf.SlIterI.Collect
import Derived.Shelf.SortM.Plain
import Derived.Shelf.SortM.SortNone
import Derived.Ground.GgzProg
import Derived.Ground.SlgmProg
import Derived.Test.YtcihbmifogfdpaaGreatDoorProg
namespace Go.Proofs
open Go.RowKit Go.Maps Go.Sort Go.Shelf
shelf_lay_g SlLaysZI.n7 Ggz 7 at Tryz 367 as Tryz.keysI
shelf_lay_g SlLaysZI.n8 Ggz 8 at Tryz 108 as Tryz.collI
shelf_lay_g SlLaysZ.n7 Ggz 7 at Tryz 103 as Tryz.keysS
shelf_lay_g SlLaysZ.n6 Ggz 6 at Tryz 102 as Tryz.sortedS
shelf_lay_g SlLaysM.n6 Slgm 6 at Tryz 158 as Tryz.sortS
/-- slices.Sort's two contracts -/
theorem Tryz.sortsS (m : Nat) : AnyZ.SortsIn Tryz.prog Tryz.sortedS_ren Fence.wide m :=
  ⟨fun blk off cap ss W hH hblk hsz => callsIn_wide.2 (AnyM.slices_Sort_string Tryz.sortS blk off cap ss W hH hblk hsz),
   fun p cap W => callsIn_wide.2 (AnyM.slices_Sort_string_none Tryz.sortS p cap W)⟩
end Go.Proofs
