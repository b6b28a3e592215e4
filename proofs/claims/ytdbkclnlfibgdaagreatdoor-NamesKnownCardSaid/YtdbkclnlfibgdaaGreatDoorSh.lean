/- What a builder's type is at this seat's program. -/
import Derived.Test.YtdbkclnlfibgdaaGreatDoorSq
namespace Go.Proofs
open Go.Shelf Go.RowKit
set_option maxRecDepth 100000 in
theorem Tryz.Builder_Extra_str : Builder.Extra Tryz.prog Tryz.strL_ren where
  sizeBuilder := by kernel_rfl
  liesBuilder := by kernel_rfl
  t5 := Tryz.underlying5
  a5 := fun w => run_isAgg_plain Tryz.underlying5 rfl w
  z5 := fun w => by kernel_rfl
  v5 := fun w => by kernel_rfl
  infoByte := by kernel_rfl
  cellsByte := by kernel_rfl
  sizeByte := by kernel_rfl
  neB5 := by decide
end Go.Proofs
