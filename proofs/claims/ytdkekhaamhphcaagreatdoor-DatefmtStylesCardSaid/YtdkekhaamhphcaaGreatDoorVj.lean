/-
  The layer wakes; two digits of a number below sixty. No condition.
-/
import Derived.Test.YtdkekhaamhphcaaGreatDoorVi
import Derived.KernelRfl
namespace Go.Proofs.YtdkekhaamhphcaaGreatDoor
open Go.Vx Go.RowKit
set_option maxRecDepth 1000000
noncomputable def envW : Env := withS env [(159, memoX 12 [] nmT), (65, memoX 12 [] rpT), (117, memoX 12 tabs whT)]
theorem envW_ok : envW.Ok Tryz.prog := withS_ok env_ok (allC nm_sum (allC rp_sum (allC wh_sum allN)))
theorem wakes_told : Tells Tryz.prog 12 tabs 4 [] (.bool true) := tells envW_ok 59 100000 rfl tabs_ok (fn := Tryz.f4) (by kernel_rfl) rfl (by kernel_rfl) (bndL0 (by kernel_rfl))
end Go.Proofs.YtdkekhaamhphcaaGreatDoor
