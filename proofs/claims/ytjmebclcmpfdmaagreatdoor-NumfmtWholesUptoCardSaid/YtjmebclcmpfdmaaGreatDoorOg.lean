/-
  NumfmtWholes: the row's closed facts, one more. No condition.
-/
import Derived.Test.YtjmebclcmpfdmaaGreatDoorRows
import Derived.JoinedOf
import Derived.KernelRfl
namespace Go.Proofs.YtjmebclcmpfdmaaGreatDoor.numfmtWholes
open Go.ChangeShapes Go.WideShapes
set_option maxRecDepth 100000
theorem fact9 : (Rows.numfmtWholesUptoRow.plainKeys == Tryz.pinned.checked.prog.plainKeys) = true := by kernel_rfl
theorem fact10 : Tryz.pinned.checked.prog.stopsHeard = true := by kernel_rfl
theorem fact11 : Tryz.pinned.checked.prog.mayEnter = true := by kernel_rfl
theorem fact12 : (Rows.numfmtWholesUptoRow.lifted == Tryz.pinned.checked.prog.liftsFinal) = true := by kernel_rfl
theorem fact13 : (Tryz.pinned.checked.prog.make == some Rows.numfmtWholesUptoRow.make) = true := by kernel_rfl
theorem fact8 : (Rows.numfmtWholesUptoRow.inPlace == Tryz.pinned.checked.prog.inPlace 4) = true := by kernel_rfl
end Go.Proofs.YtjmebclcmpfdmaaGreatDoor.numfmtWholes
