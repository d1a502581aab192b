/-
  numfmt.Number and compose.part where wakes asks them. No condition.
-/
import Derived.Test.YtpcgcghhddnifaaGreatDoorVg
import Derived.KernelRfl
namespace Go.Proofs.YtpcgcghhddnifaaGreatDoor
open Go.Vx
set_option maxRecDepth 1000000
noncomputable def envN : Env := withS env [(49, memoX 11 [] nmT)]
theorem envN_ok : envN.Ok Tryz.prog := withS_ok env_ok (allC nm_sum allN)
theorem nb0 : Tells Tryz.prog 11 tabs 73 [(.ifc 28 (.agg [.nils])), (.str [101, 110]), (.agg [(.bool false), (.str [50]), (.int .i64 (.ofNat 0))]), (.agg [(.int .i64 (.ofNat 1)), (.str []), (.str []), (.bool false), (.int .i64 (.ofNat 0))])] (.tup [(.str [50]), (.int .i64 (.ofNat 0))]) := tells envN_ok 59 100000 rfl tabs_ok (fn := Tryz.f73) (by kernel_rfl) rfl (by kernel_rfl) (bndL0 (by kernel_rfl))
noncomputable def nbT : List (List AV × AV) := [([(.ifc 28 (.agg [.nils])), (.str [101, 110]), (.agg [(.bool false), (.str [50]), (.int .i64 (.ofNat 0))]), (.agg [(.int .i64 (.ofNat 1)), (.str []), (.str []), (.bool false), (.int .i64 (.ofNat 0))])], (.tup [(.str [50]), (.int .i64 (.ofNat 0))]))]
theorem nb_sum : SumOk Tryz.prog 11 73 (memoX 11 tabs nbT) := memo_ok Tryz.call73 tabs_lt (allC ⟨nb0, bnd0 (by kernel_rfl)⟩ allN)
end Go.Proofs.YtpcgcghhddnifaaGreatDoor
