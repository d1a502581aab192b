/-
  The layer wakes. No condition.
-/
import Derived.Test.YtpfldlbdmhhjdaaGreatDoorVh
import Derived.Test.YtpfldlbdmhhjdaaGreatDoorVi
import Derived.KernelRfl
namespace Go.Proofs.YtpfldlbdmhhjdaaGreatDoor
open Go.Vx
set_option maxRecDepth 1000000
noncomputable def envW : Env := withS env [(117, memoX 12 [] nmT), (13, memoX 12 tabs flT), (20, memoX 12 tabs nbT)]
theorem envW_ok : envW.Ok Tryz.prog := withS_ok env_ok (allC nm_sum (allC fl_sum (allC nb_sum allN)))
theorem wakes_told : Tells Tryz.prog 12 tabs 5 [] (.bool true) := tells envW_ok 59 100000 rfl tabs_ok (fn := Tryz.f5) (by kernel_rfl) rfl (by kernel_rfl) (bndL0 (by kernel_rfl))
end Go.Proofs.YtpfldlbdmhhjdaaGreatDoor
