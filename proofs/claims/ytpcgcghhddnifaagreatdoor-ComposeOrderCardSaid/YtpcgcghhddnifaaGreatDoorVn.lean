/-
  compose.List holds a range over a function; the layer wakes. No condition.
-/
import Derived.Test.YtpcgcghhddnifaaGreatDoorVk
import Derived.Test.YtpcgcghhddnifaaGreatDoorVl
import Derived.KernelRfl
namespace Go.Proofs.YtpcgcghhddnifaaGreatDoor
open Go.Vx
set_option maxRecDepth 1000000
noncomputable def envL : Env := withS env [(49, memoX 11 [] nmT), (31, memoX 11 [] ptT)]
theorem envL_ok : envL.Ok Tryz.prog := withS_ok env_ok (allC nm_sum (allC pt_sum allN))
noncomputable def cList : Code := match Tryz.f10.body with
  | some c => c
  | none => .skip
theorem bList : Tryz.f10.body = some cList := rfl
noncomputable def listX : List AV → St → Option (AV × St) := sumR rng Tryz.f10 cList envL 59 100000
theorem list_sum : SumOk Tryz.prog 11 10 listX := sumR_ok envL_ok rng_ok Tryz.func10 bList Tryz.call10 59 100000
noncomputable def envW : Env := withS env [(49, memoX 11 [] nmT), (10, listX), (73, memoX 11 tabs nbT), (74, memoX 11 tabs plT)]
theorem envW_ok : envW.Ok Tryz.prog := withS_ok env_ok (allC nm_sum (allC list_sum (allC nb_sum (allC pl_sum allN))))
theorem wakes_told : Tells Tryz.prog 11 tabs 8 [] (.bool true) := tells envW_ok 59 100000 rfl tabs_ok (fn := Tryz.f8) (by kernel_rfl) rfl (by kernel_rfl) (bndL0 (by kernel_rfl))
end Go.Proofs.YtpcgcghhddnifaaGreatDoor
