/- The shelf's contracts laid at this seat's program. -/
import Derived.Test.YtpddhbdjcgkjcaaGreatDoorProg
import Derived.Ground.NamesProg
import Derived.Shelf.Lay
import Derived.Shelf.Strings.Search3
import Derived.Shelf.Strings.SlTrimAscii
import Derived.Shelf.Strings.BuilderK
namespace Go.Proofs
open Go.Shelf Go.RowKit
shelf_lay Lays.n160 Nm 160 at Tryz as Tryz.trimL
shelf_lay Lays.n144 Nm 144 at Tryz as Tryz.containsL
shelf_lay Lays.n169 Nm 169 at Tryz as Tryz.strL
set_option maxRecDepth 100000 in
theorem Tryz.Builder_Extra_str : Builder.Extra Tryz.prog Tryz.strL_ren where
  sizeBuilder := by kernel_rfl
  liesBuilder := by kernel_rfl
  t5 := Tryz.underlying5
  a5 := fun w => run_isAgg_plain Tryz.underlying5 rfl w
  z5 := fun w => by kernel_rfl
  v5 := fun w => by kernel_rfl
  infoByte := by kernel_rfl
  cellsByte := by kernel_rfl
  sizeByte := by kernel_rfl
  neB5 := by decide
end Go.Proofs
