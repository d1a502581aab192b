/-
  ComposeOrder: its tied card. No condition.
-/
import Derived.Test.YtpcgcghhddnifaaGreatDoorOh
import Derived.Test.YtpcgcghhddnifaaGreatDoorOf
import Derived.Test.YtpcgcghhddnifaaGreatDoorOg
import Derived.Test.YtpcgcghhddnifaaGreatDoorChecked
import Derived.Test.YtpcgcghhddnifaaGreatDoorTie
import Derived.Test.YtpcgcghhddnifaaGreatDoorCards
import Derived.WalkKit
import Derived.ProofKit
import Derived.LaidMore
import Derived.LaidLaws
import Derived.OpenShut
import Derived.Lib.SmallJoins
import Derived.SevenTiedAt
import Derived.SizedLaws
import Derived.HandedShaped
import Derived.Lay
import Derived.WideKeyArgs
namespace Go.Proofs.YtpcgcghhddnifaaGreatDoor
open Go.ChangeShapes Go.WideShapes Go.ChangeAt Go.RowKit Go.ChangeMaps Go.Vx
namespace composeOrder
theorem plain (f : FuncId) (fn : Func) (hf : Tryz.pinned.checked.prog.funcNamed "vernacular/vernacularlaw28.ComposeOrder" = some f) (hfn : Tryz.pinned.checked.prog.funcs[f]? = some fn) :
    true = Tryz.pinned.checked.prog.looks [] ∧ ∀ (j : Nat) t, fn.params[j]? = some t → Tryz.pinned.checked.prog.wantsStandIn t = false := by
  obtain rfl : f = 5 := Option.some.inj ((show Tryz.prog.funcNamed "vernacular/vernacularlaw28.ComposeOrder" = some 5 by kernel_rfl).symm.trans hf) |>.symm
  obtain rfl : fn = Tryz.f5 := (Option.some.inj (Tryz.func5.symm.trans hfn)).symm
  refine ⟨by kernel_rfl, fun j t ht => ?_⟩
  rw [Tryz.params5] at ht
  have hm : t ∈ [22, 9, 25] := by simpa using Array.mem_of_getElem? ht
  have hall : ([22, 9, 25].all fun u => !Tryz.prog.wantsStandIn u) = true := by kernel_rfl
  exact (show Tryz.prog.wantsStandIn t = false by simpa using List.all_eq_true.1 hall t hm)
theorem wf : Rows.composeOrderRow.wfByText (OpenSpec.ofChange Rows.composeOrderSpec) = true := by kernel_rfl
def har : Bool × String := (true, "7fb94a1763f417fac221c3ea1e308894f47ddc5790761bc7c46f9bf6f9a1c1d8")
theorem main_is : Tryz.pinned.checked.prog.mainIs = some (har.1, har.2.toList) := by kernel_rfl
theorem goes : false = Rows.composeOrderRow.goesBy Tryz.pinned.checked.prog := by kernel_rfl
theorem proved : Rows.ComposeOrderCardSaid :=
  Claim7.holds_tied_plain_at .later [] _ _ har _ over (fun _ h => by cases h) wf (fun _ h => by cases h) composeOrder_row_tie rfl ⟨rfl, rfl⟩ main_is rfl plain goes
#print axioms proved
end composeOrder
end Go.Proofs.YtpcgcghhddnifaaGreatDoor
