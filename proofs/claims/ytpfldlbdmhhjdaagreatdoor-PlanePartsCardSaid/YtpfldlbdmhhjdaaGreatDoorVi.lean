/-
  numfmt.Number at the two numbers that wakes asks. No condition.
-/
import Derived.Test.YtpfldlbdmhhjdaaGreatDoorVg
import Derived.KernelRfl
namespace Go.Proofs.YtpfldlbdmhhjdaaGreatDoor
open Go.Vx
set_option maxRecDepth 1000000
noncomputable def envN : Env := withS env [(117, memoX 12 [] nmT)]
theorem envN_ok : envN.Ok Tryz.prog := withS_ok env_ok (allC nm_sum allN)
theorem nb0 : Tells Tryz.prog 12 tabs 20 [(.ifc 43 (.agg [.nils])), (.str [114, 111, 111, 116]), (.agg [(.bool false), (.str [49, 48]), (.int .i64 (.ofNat 1))]), (.agg [(.int .i64 (.ofNat 1)), (.str []), (.str []), (.bool true), (.int .i64 (.ofNat 1))])] (.tup [(.str [49, 46, 48]), (.int .i64 (.ofNat 0))]) := tells envN_ok 59 100000 rfl tabs_ok (fn := Tryz.f20) (by kernel_rfl) rfl (by kernel_rfl) (bndL0 (by kernel_rfl))
theorem nb1 : Tells Tryz.prog 12 tabs 20 [(.ifc 43 (.agg [.nils])), (.str [114, 111, 111, 116]), (.agg [(.bool false), (.str [50, 53]), (.int .i64 (.ofNat 1))]), (.agg [(.int .i64 (.ofNat 1)), (.str []), (.str []), (.bool true), (.int .i64 (.ofNat 1))])] (.tup [(.str [50, 46, 53]), (.int .i64 (.ofNat 0))]) := tells envN_ok 59 100000 rfl tabs_ok (fn := Tryz.f20) (by kernel_rfl) rfl (by kernel_rfl) (bndL0 (by kernel_rfl))
noncomputable def nbT : List (List AV × AV) := [([(.ifc 43 (.agg [.nils])), (.str [114, 111, 111, 116]), (.agg [(.bool false), (.str [49, 48]), (.int .i64 (.ofNat 1))]), (.agg [(.int .i64 (.ofNat 1)), (.str []), (.str []), (.bool true), (.int .i64 (.ofNat 1))])], (.tup [(.str [49, 46, 48]), (.int .i64 (.ofNat 0))])), ([(.ifc 43 (.agg [.nils])), (.str [114, 111, 111, 116]), (.agg [(.bool false), (.str [50, 53]), (.int .i64 (.ofNat 1))]), (.agg [(.int .i64 (.ofNat 1)), (.str []), (.str []), (.bool true), (.int .i64 (.ofNat 1))])], (.tup [(.str [50, 46, 53]), (.int .i64 (.ofNat 0))]))]
theorem nb_sum : SumOk Tryz.prog 12 20 (memoX 12 tabs nbT) := memo_ok Tryz.call20 tabs_lt (allC ⟨nb0, bnd0 (by kernel_rfl)⟩ (allC ⟨nb1, bnd0 (by kernel_rfl)⟩ allN))
end Go.Proofs.YtpfldlbdmhhjdaaGreatDoor
