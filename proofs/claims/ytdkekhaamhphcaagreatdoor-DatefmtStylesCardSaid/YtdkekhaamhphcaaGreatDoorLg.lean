/-
  DatefmtStyles: the row's closed facts, one more. No condition.
-/
import Derived.Test.YtdkekhaamhphcaaGreatDoorRows
import Derived.JoinedOf
import Derived.KernelRfl
namespace Go.Proofs.YtdkekhaamhphcaaGreatDoor.datefmtStyles
open Go.ChangeShapes Go.WideShapes
set_option maxRecDepth 100000
theorem fact9 : (Rows.datefmtStylesRow.plainKeys == Tryz.pinned.checked.prog.plainKeys) = true := by kernel_rfl
theorem fact10 : Tryz.pinned.checked.prog.stopsHeard = true := by kernel_rfl
theorem fact11 : Tryz.pinned.checked.prog.mayEnter = true := by kernel_rfl
theorem fact12 : (Rows.datefmtStylesRow.lifted == Tryz.pinned.checked.prog.liftsFinal) = true := by kernel_rfl
theorem fact13 : (Tryz.pinned.checked.prog.make == some Rows.datefmtStylesRow.make) = true := by kernel_rfl
theorem fact8 : (Rows.datefmtStylesRow.inPlace == Tryz.pinned.checked.prog.inPlace 3) = true := by kernel_rfl
end Go.Proofs.YtdkekhaamhphcaaGreatDoor.datefmtStyles
