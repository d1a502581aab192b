/-
  The functions of the environment that are named below. No condition.
-/
import Derived.Test.YtjmebclcmpfdmaaGreatDoorVe
import Derived.Test.YtjmebclcmpfdmaaGreatDoorVxZc
import Derived.KernelRfl
namespace Go.Proofs.YtjmebclcmpfdmaaGreatDoor
open Go.Vx
set_option maxRecDepth 1000000
theorem env_f87 : env.fn 87 = some Tryz.f87 := by kernel_rfl
theorem env_f7 : env.fn 7 = some Tryz.f7 := by kernel_rfl
/-- The variable that a run reads: ErrSyntax, whatever it holds. -/
noncomputable def tabs : List Tab := [⟨4, [.opq 0], 0⟩]
theorem tabs_ok : tabsOk 11 tabs = true := by kernel_rfl
theorem tabs_lt : ∀ t ∈ tabs, t.g < 11 := allC (by decide) allN
end Go.Proofs.YtjmebclcmpfdmaaGreatDoor
