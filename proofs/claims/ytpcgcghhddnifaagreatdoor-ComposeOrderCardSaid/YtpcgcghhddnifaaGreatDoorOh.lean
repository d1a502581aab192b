/-
  ComposeOrder: the row. No condition.
-/
import Derived.Test.YtpcgcghhddnifaaGreatDoorOa
import Derived.Test.YtpcgcghhddnifaaGreatDoorOf
import Derived.Test.YtpcgcghhddnifaaGreatDoorOg
import Derived.Test.YtpcgcghhddnifaaGreatDoorChecked
import Derived.Test.YtpcgcghhddnifaaGreatDoorTie
import Derived.Test.YtpcgcghhddnifaaGreatDoorCards
import Derived.WalkKit
import Derived.ProofKit
import Derived.LaidMore
import Derived.LaidLaws
import Derived.OpenShut
import Derived.Lib.SmallJoins
import Derived.SevenTiedAt
import Derived.SizedLaws
import Derived.HandedShaped
import Derived.Lay
import Derived.WideKeyArgs
namespace Go.Proofs.YtpcgcghhddnifaaGreatDoor
open Go.ChangeShapes Go.WideShapes Go.ChangeAt Go.RowKit Go.ChangeMaps Go.Vx
namespace composeOrder
theorem facts : joinedFacts Tryz.pinned.checked.prog 5 Tryz.f5 Rows.composeOrderSpec Rows.composeOrderRow = true := by
  unfold joinedFacts
  rw [fact1, fact2, fact3, fact4, fact5, fact6, fact7, fact8, fact9, fact10, fact11, fact12, fact13]
  kernel_rfl
theorem over : Rows.ComposeOrderSaid :=
  OpenClaim.holds_of_wide 5 Tryz.f5 rfl rfl rfl rfl rfl rfl rfl ⟨rfl, rfl, rfl, rfl, rfl⟩ rfl rfl rfl rfl rfl (by kernel_rfl) Tryz.func5 facts
    (of_decide_eq_true (by kernel_rfl)) (by unfold Func.isWrapper; first | (rw [if_pos (by decide +kernel)]; kernel_rfl) | (rw [if_neg (by decide +kernel)]; exact ⟨rfl, rfl⟩))
    (fun os started H enc _ => lifted os started H enc)
end composeOrder
end Go.Proofs.YtpcgcghhddnifaaGreatDoor
