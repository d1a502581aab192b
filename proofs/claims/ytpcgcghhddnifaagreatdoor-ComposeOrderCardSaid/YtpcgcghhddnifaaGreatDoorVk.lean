/-
  compose.part where wakes asks it. No condition.
-/
import Derived.Test.YtpcgcghhddnifaaGreatDoorVi
import Derived.KernelRfl
namespace Go.Proofs.YtpcgcghhddnifaaGreatDoor
open Go.Vx
set_option maxRecDepth 1000000
theorem pt0 : Tells Tryz.prog 11 [] 31 [(.ifc 28 (.agg [.nils])), (.str [101, 110]), (.str [115, 116, 97, 110, 100, 97, 114, 100]), (.str [109, 105, 100, 100, 108, 101])] (.str [123, 48, 125, 44, 32, 123, 49, 125]) := tells envN_ok 59 100000 rfl (by kernel_rfl) (fn := Tryz.f31) (by kernel_rfl) rfl (by kernel_rfl) (bndL0 (by kernel_rfl))
theorem pt1 : Tells Tryz.prog 11 [] 31 [(.ifc 28 (.agg [.nils])), (.str [101, 110]), (.str [115, 116, 97, 110, 100, 97, 114, 100]), (.str [101, 110, 100])] (.str [123, 48, 125, 44, 32, 123, 49, 125]) := tells envN_ok 59 100000 rfl (by kernel_rfl) (fn := Tryz.f31) (by kernel_rfl) rfl (by kernel_rfl) (bndL0 (by kernel_rfl))
theorem pt2 : Tells Tryz.prog 11 [] 31 [(.ifc 28 (.agg [.nils])), (.str [101, 110]), (.str [115, 116, 97, 110, 100, 97, 114, 100]), (.str [115, 116, 97, 114, 116])] (.str [123, 48, 125, 44, 32, 123, 49, 125]) := tells envN_ok 59 100000 rfl (by kernel_rfl) (fn := Tryz.f31) (by kernel_rfl) rfl (by kernel_rfl) (bndL0 (by kernel_rfl))
noncomputable def ptT : List (List AV × AV) := [([(.ifc 28 (.agg [.nils])), (.str [101, 110]), (.str [115, 116, 97, 110, 100, 97, 114, 100]), (.str [109, 105, 100, 100, 108, 101])], (.str [123, 48, 125, 44, 32, 123, 49, 125])), ([(.ifc 28 (.agg [.nils])), (.str [101, 110]), (.str [115, 116, 97, 110, 100, 97, 114, 100]), (.str [101, 110, 100])], (.str [123, 48, 125, 44, 32, 123, 49, 125])), ([(.ifc 28 (.agg [.nils])), (.str [101, 110]), (.str [115, 116, 97, 110, 100, 97, 114, 100]), (.str [115, 116, 97, 114, 116])], (.str [123, 48, 125, 44, 32, 123, 49, 125]))]
theorem pt_sum : SumOk Tryz.prog 11 31 (memoX 11 [] ptT) := memo_ok Tryz.call31 (fun _ h => by cases h) (allC ⟨pt0, bnd0 (by kernel_rfl)⟩ (allC ⟨pt1, bnd0 (by kernel_rfl)⟩ (allC ⟨pt2, bnd0 (by kernel_rfl)⟩ allN)))
end Go.Proofs.YtpcgcghhddnifaaGreatDoor
