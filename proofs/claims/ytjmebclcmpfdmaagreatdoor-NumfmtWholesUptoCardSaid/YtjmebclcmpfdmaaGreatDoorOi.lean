/-
  NumfmtWholes, for arguments of bulk at most 1048576: its tied card. Condition: the bulk.
-/
import Derived.Test.YtjmebclcmpfdmaaGreatDoorOh
import Derived.Test.YtjmebclcmpfdmaaGreatDoorOf
import Derived.Test.YtjmebclcmpfdmaaGreatDoorOg
import Derived.Test.YtjmebclcmpfdmaaGreatDoorChecked
import Derived.Test.YtjmebclcmpfdmaaGreatDoorTie
import Derived.Test.YtjmebclcmpfdmaaGreatDoorCards
import Derived.WalkKit
import Derived.ProofKit
import Derived.LaidMore
import Derived.LaidLaws
import Derived.OpenShut
import Derived.Lib.SmallJoins
import Derived.SevenTiedAt
import Derived.SizedLaws
import Derived.Lay
import Derived.Deep.DeepHandedRow
import Derived.Deep.DeepWitnessRowRef
import Derived.WideKeyArgs
namespace Go.Proofs.YtjmebclcmpfdmaaGreatDoor
open Go.ChangeShapes Go.WideShapes Go.ChangeAt Go.RowKit Go.ChangeMaps Go.Vx
namespace numfmtWholes
theorem plain (f : FuncId) (fn : Func) (hf : Tryz.pinned.checked.prog.funcNamed "vernacular/vernacularlaw25.NumfmtWholes" = some f) (hfn : Tryz.pinned.checked.prog.funcs[f]? = some fn) :
    true = Tryz.pinned.checked.prog.looks [] ∧ ∀ (j : Nat) t, fn.params[j]? = some t → Tryz.pinned.checked.prog.wantsStandIn t = false := by
  obtain rfl : f = 4 := Option.some.inj ((show Tryz.prog.funcNamed "vernacular/vernacularlaw25.NumfmtWholes" = some 4 by kernel_rfl).symm.trans hf) |>.symm
  obtain rfl : fn = Tryz.f4 := (Option.some.inj (Tryz.func4.symm.trans hfn)).symm
  refine ⟨by kernel_rfl, fun j t ht => ?_⟩
  rw [Tryz.params4] at ht
  have hm : t ∈ [22, 2, 40] := by simpa using Array.mem_of_getElem? ht
  have hall : ([22, 2, 40].all fun u => !Tryz.prog.wantsStandIn u) = true := by kernel_rfl
  exact (show Tryz.prog.wantsStandIn t = false by simpa using List.all_eq_true.1 hall t hm)
theorem wf : Rows.numfmtWholesUptoRow.wfByText (Rows.OpenSpec.upto Rows.numfmtWholesSpec) = true := by kernel_rfl
theorem main_is : Tryz.pinned.checked.prog.mainIs = some (true, "b3b5c7a59a361f337c517f9df71442e363fb7217566e80d75132ec9fba41c859".toList) := by kernel_rfl
theorem goes : false = Rows.numfmtWholesUptoRow.goesBy Tryz.pinned.checked.prog := by kernel_rfl
theorem proved : Rows.NumfmtWholesUptoCardSaid :=
  Claim7.holds_tied_plain_at .later [] _ _ _ _ over (fun _ h => by cases h) wf (fun _ h => by cases h) numfmtWholesUpto_row_tie rfl ⟨rfl, rfl⟩ main_is rfl plain goes
#print axioms proved
end numfmtWholes
end Go.Proofs.YtjmebclcmpfdmaaGreatDoor
