/-
  PlaneStyles: the row's closed facts, one more. No condition.
-/
import Derived.Test.YtlakcnaeibkonaaGreatDoorRows
import Derived.JoinedOf
import Derived.KernelRfl
namespace Go.Proofs.YtlakcnaeibkonaaGreatDoor.planeStyles
open Go.ChangeShapes Go.WideShapes
set_option maxRecDepth 100000
theorem fact9 : (Rows.planeStylesRow.plainKeys == Tryz.pinned.checked.prog.plainKeys) = true := by kernel_rfl
theorem fact10 : Tryz.pinned.checked.prog.stopsHeard = true := by kernel_rfl
theorem fact11 : Tryz.pinned.checked.prog.mayEnter = true := by kernel_rfl
theorem fact12 : (Rows.planeStylesRow.lifted == Tryz.pinned.checked.prog.liftsFinal) = true := by kernel_rfl
theorem fact13 : (Tryz.pinned.checked.prog.make == some Rows.planeStylesRow.make) = true := by kernel_rfl
theorem fact8 : (Rows.planeStylesRow.inPlace == Tryz.pinned.checked.prog.inPlace 3) = true := by kernel_rfl
end Go.Proofs.YtlakcnaeibkonaaGreatDoor.planeStyles
