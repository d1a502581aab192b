/-
  NumfmtWholes: the row. No condition.
-/
import Derived.Test.YtjmebclcmpfdmaaGreatDoorOb
import Derived.Test.YtjmebclcmpfdmaaGreatDoorOf
import Derived.Test.YtjmebclcmpfdmaaGreatDoorOg
import Derived.Test.YtjmebclcmpfdmaaGreatDoorChecked
import Derived.Test.YtjmebclcmpfdmaaGreatDoorTie
import Derived.Test.YtjmebclcmpfdmaaGreatDoorCards
import Derived.WalkKit
import Derived.ProofKit
import Derived.LaidMore
import Derived.LaidLaws
import Derived.OpenShut
import Derived.Lib.SmallJoins
import Derived.SevenTiedAt
import Derived.SizedLaws
import Derived.Lay
import Derived.Deep.DeepHandedRow
import Derived.Deep.DeepWitnessRowRef
import Derived.WideKeyArgs
namespace Go.Proofs.YtjmebclcmpfdmaaGreatDoor
open Go.ChangeShapes Go.WideShapes Go.ChangeAt Go.RowKit Go.ChangeMaps Go.Vx
namespace numfmtWholes
theorem facts : joinedFacts Tryz.pinned.checked.prog 4 Tryz.f4 (Rows.OpenSpec.upto Rows.numfmtWholesSpec).bare Rows.numfmtWholesUptoRow = true := by
  unfold joinedFacts
  rw [fact1, fact2, fact3, fact4, fact5, fact6, fact7, fact8, fact9, fact10, fact11, fact12, fact13]
  kernel_rfl
theorem over : Rows.NumfmtWholesUptoSaid :=
  OpenClaim.holds_of_cond 4 Tryz.f4 rfl rfl rfl rfl rfl rfl rfl ⟨rfl, rfl, rfl, rfl, rfl⟩ rfl rfl rfl rfl rfl (by kernel_rfl) Tryz.func4 facts
    (of_decide_eq_true (by kernel_rfl)) (by unfold Func.isWrapper; first | (rw [if_pos (by decide +kernel)]; kernel_rfl) | (rw [if_neg (by decide +kernel)]; exact ⟨rfl, rfl⟩))
    (fun os started H enc _ F => by rw [OpenClaim.pre_eq_preRow]; exact lifted os started H enc F)
end numfmtWholes
end Go.Proofs.YtjmebclcmpfdmaaGreatDoor
