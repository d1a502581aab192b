/-
  numfmt.Whole at the numbers that wakes asks. No condition.
-/
import Derived.Test.YtdkekhaamhphcaaGreatDoorVg
import Derived.Test.YtdkekhaamhphcaaGreatDoorVh
import Derived.KernelRfl
namespace Go.Proofs.YtdkekhaamhphcaaGreatDoor
open Go.Vx
set_option maxRecDepth 1000000
noncomputable def envN : Env := withS env [(159, memoX 12 [] nmT), (65, memoX 12 [] rpT)]
theorem envN_ok : envN.Ok Tryz.prog := withS_ok env_ok (allC nm_sum (allC rp_sum allN))
theorem wh0 : Tells Tryz.prog 12 tabs 117 [(.ifc 48 (.agg [.nils])), (.str [114, 111, 111, 116]), (.str []), (.int .i64 (.ofNat 1970)), (.int .i64 (.ofNat 1))] (.tup [(.str [49, 57, 55, 48]), (.int .i64 (.ofNat 0))]) := tells envN_ok 59 100000 rfl tabs_ok (fn := Tryz.f117) (by kernel_rfl) rfl (by kernel_rfl) (bndL0 (by kernel_rfl))
theorem wh1 : Tells Tryz.prog 12 tabs 117 [(.ifc 48 (.agg [.nils])), (.str [114, 111, 111, 116]), (.str []), (.int .i64 (.ofNat 1)), (.int .i64 (.ofNat 2))] (.tup [(.str [48, 49]), (.int .i64 (.ofNat 0))]) := tells envN_ok 59 100000 rfl tabs_ok (fn := Tryz.f117) (by kernel_rfl) rfl (by kernel_rfl) (bndL0 (by kernel_rfl))
theorem wh2 : Tells Tryz.prog 12 tabs 117 [(.ifc 48 (.agg [.nils])), (.str [114, 111, 111, 116]), (.str []), (.int .i64 (.ofNat 0)), (.int .i64 (.ofNat 2))] (.tup [(.str [48, 48]), (.int .i64 (.ofNat 0))]) := tells envN_ok 59 100000 rfl tabs_ok (fn := Tryz.f117) (by kernel_rfl) rfl (by kernel_rfl) (bndL0 (by kernel_rfl))
noncomputable def whT : List (List AV × AV) := [([(.ifc 48 (.agg [.nils])), (.str [114, 111, 111, 116]), (.str []), (.int .i64 (.ofNat 1970)), (.int .i64 (.ofNat 1))], (.tup [(.str [49, 57, 55, 48]), (.int .i64 (.ofNat 0))])), ([(.ifc 48 (.agg [.nils])), (.str [114, 111, 111, 116]), (.str []), (.int .i64 (.ofNat 1)), (.int .i64 (.ofNat 2))], (.tup [(.str [48, 49]), (.int .i64 (.ofNat 0))])), ([(.ifc 48 (.agg [.nils])), (.str [114, 111, 111, 116]), (.str []), (.int .i64 (.ofNat 0)), (.int .i64 (.ofNat 2))], (.tup [(.str [48, 48]), (.int .i64 (.ofNat 0))]))]
theorem wh_sum : SumOk Tryz.prog 12 117 (memoX 12 tabs whT) := memo_ok Tryz.call117 tabs_lt (allC ⟨wh0, bnd0 (by kernel_rfl)⟩ (allC ⟨wh1, bnd0 (by kernel_rfl)⟩ (allC ⟨wh2, bnd0 (by kernel_rfl)⟩ allN)))
end Go.Proofs.YtdkekhaamhphcaaGreatDoor
