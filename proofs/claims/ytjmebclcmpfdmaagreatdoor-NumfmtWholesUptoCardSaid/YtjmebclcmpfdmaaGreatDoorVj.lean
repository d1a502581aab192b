/-
  The layer wakes. No condition.
-/
import Derived.Test.YtjmebclcmpfdmaaGreatDoorVg
import Derived.KernelRfl
namespace Go.Proofs.YtjmebclcmpfdmaaGreatDoor
open Go.Vx
set_option maxRecDepth 1000000
noncomputable def envN : Env := withS env [(87, memoX 11 [] nmT)]
theorem envN_ok : envN.Ok Tryz.prog := withS_ok env_ok (allC nm_sum allN)
theorem wakes_told : Tells Tryz.prog 11 tabs 7 [] (.bool true) := tells envN_ok 59 100000 rfl tabs_ok (fn := Tryz.f7) (by kernel_rfl) rfl (by kernel_rfl) (bndL0 (by kernel_rfl))
end Go.Proofs.YtjmebclcmpfdmaaGreatDoor
