/- The library's sorts laid at this seat's program. -/
import Derived.Shelf.SortM.Plain
import Derived.Shelf.SortM.SortNone
import Derived.Shelf.SlSortCmp.NoneTotal
import Derived.Shelf.Small.Strs
import Derived.Ground.SlgmProg
import Derived.Ground.SlsfProg
import Derived.Ground.NamesProg
import Derived.Shelf.Lay
import Derived.Test.YtpddhbdjcgkjcaaGreatDoorProg
namespace Go.Proofs
open Go.RowKit Go.Sort Go.Shelf
shelf_lay_g SlLaysM.n6 Slgm 6 at Tryz 83 as Tryz.sort83
shelf_lay_g SlLaysF.n6 Slsf 6 at Tryz 49 as Tryz.sort49
shelf_lay Lays.n106 Nm 106 at Tryz as Tryz.cmpL
end Go.Proofs
