/-
  NumfmtWholes: the row's closed facts, one by one. No condition.
-/
import Derived.Test.YtjmebclcmpfdmaaGreatDoorRows
import Derived.JoinedOf
import Derived.KernelRfl
namespace Go.Proofs.YtjmebclcmpfdmaaGreatDoor.numfmtWholes
open Go.ChangeShapes Go.WideShapes
set_option maxRecDepth 100000
theorem fact1 : laidOutB Tryz.pinned.checked.prog = true := by kernel_rfl
theorem fact2 : mapsRowed Tryz.pinned.checked.prog = true := by kernel_rfl
theorem fact3 : (Tryz.pinned.checked.prog.stops == []) = true := by kernel_rfl
theorem fact4 : (Tryz.pinned.checked.prog.stopKnobs == []) = true := by kernel_rfl
theorem fact5 : (Rows.numfmtWholesUptoRow.recurses == Tryz.pinned.checked.prog.recurses 4) = true := by kernel_rfl
theorem fact6 : (Rows.numfmtWholesUptoRow.named == Tryz.pinned.checked.prog.varsNamed 4) = true := by kernel_rfl
theorem fact7 : (Rows.numfmtWholesUptoRow.unfollowed == Tryz.pinned.checked.prog.unfollowed 4) = true := by kernel_rfl
end Go.Proofs.YtjmebclcmpfdmaaGreatDoor.numfmtWholes
