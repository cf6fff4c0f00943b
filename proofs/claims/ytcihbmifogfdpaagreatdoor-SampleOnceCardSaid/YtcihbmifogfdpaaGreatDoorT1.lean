/-
  The library's text functions, laid over the seat's program.
-/
import Derived.Shelf.Lay
import Derived.Shelf.SlGeneric
import Derived.Shelf.Strings.Prefix
import Derived.Shelf.Small.Strs
import Derived.Shelf.Strings.Split
import Derived.Shelf.Strconv.AtoiAll
import Derived.Shelf.Strconv.Itoa3
import Derived.Shelf.Strings.BuilderK
import Derived.Shelf.Strings.FuncGrows
import Derived.Ground.NamesProg
import Derived.Ground.GgwProg
import Derived.Test.YtcihbmifogfdpaaGreatDoorProg
import Derived.Test.YtcihbmifogfdpaaGreatDoorArr
namespace Go.Proofs
open Go.RowKit Go.Shelf Go.Sort Go.Lib Go.Proofs.YtcihbmifogfdpaaGreatDoor
shelf_lay Lays.n102 Nm 102 at Tryz as Tryz.lTrim
shelf_lay Lays.n137 Nm 137 at Tryz as Tryz.lIndexByte
shelf_lay Lays.n146 Nm 146 at Tryz as Tryz.lSplit
shelf_lay LaysC.n172 Nm 172 at Tryz as Tryz.lAtoi
shelf_lay LaysM.n171 Nm 171 at Tryz as Tryz.lItoa
shelf_lay Lays.n169 Nm 169 at Tryz as Tryz.lString
shelf_lay_g LaysGw.n17 Ggw 17 at Tryz 106 as Tryz.lContains
end Go.Proofs
