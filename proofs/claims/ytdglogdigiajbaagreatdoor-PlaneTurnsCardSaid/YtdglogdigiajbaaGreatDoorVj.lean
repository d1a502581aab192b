/-
  The layer wakes. No condition.
-/
import Derived.Test.YtdglogdigiajbaaGreatDoorVh
import Derived.Test.YtdglogdigiajbaaGreatDoorVi
import Derived.KernelRfl
namespace Go.Proofs.YtdglogdigiajbaaGreatDoor
open Go.Vx
set_option maxRecDepth 1000000
noncomputable def envW : Env := withS env [(91, memoX 12 [] nmT), (17, memoX 12 tabs flT), (14, memoX 12 tabs nbT)]
theorem envW_ok : envW.Ok Tryz.prog := withS_ok env_ok (allC nm_sum (allC fl_sum (allC nb_sum allN)))
theorem wakes_told : Tells Tryz.prog 12 tabs 4 [] (.bool true) := tells envW_ok 59 100000 rfl tabs_ok (fn := Tryz.f4) (by kernel_rfl) rfl (by kernel_rfl) (bndL0 (by kernel_rfl))
end Go.Proofs.YtdglogdigiajbaaGreatDoor
