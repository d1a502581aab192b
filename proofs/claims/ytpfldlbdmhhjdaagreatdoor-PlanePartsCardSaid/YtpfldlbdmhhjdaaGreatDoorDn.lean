/-
  plane.Parts. Conditions: sizes, the table of powers.
-/
import Derived.Test.YtpfldlbdmhhjdaaGreatDoorDm
import Derived.LoopN
set_option linter.unusedVariables false
namespace Go.Proofs.YtpfldlbdmhhjdaaGreatDoor
open Go.RowKit Go.Fl Go.Sort
set_option maxRecDepth 100000 in
set_option maxHeartbeats 1500000 in
theorem Parts_scale (a b : Nat) (x : Int) (hx : x < 0 ∨ 40 < x) (w : World) : Calls Tryz.prog 6 #[.complex .f64 a b, .int .i64 x] w fun e w' => e = .returned (.tuple #[.agg #[.bool false, .string ⟨#[]⟩, .int .i64 0], .agg #[.bool false, .string ⟨#[]⟩, .int .i64 0], .int .i64 2]) ∧ Below w.heap.size w w' := by
  have key : x < 0 ∨ ¬ x < 0 ∧ 40 < x := by omega
  rcases key with h1 | ⟨h1, h2⟩
  all_goals
    go_enter Tryz.func6, Tryz.ntmps6
    go_wp2_with fail
    refine bodyPost_ret (v := .tuple #[.agg #[.bool false, .string ⟨#[]⟩, .int .i64 0], .agg #[.bool false, .string ⟨#[]⟩, .int .i64 0], .int .i64 2]) ?_ rfl ⟨rfl, ?_⟩
    · simp [results, Tryz.results6, go_sem]
    · go_grown
set_option maxRecDepth 100000 in
theorem index0 (a b : Nat) (W : World) : (Instr.index 46 (.agg #[.float .f64 a, .float .f64 b]) (.int .i64 0)).run Tryz.prog W = .ok (.float .f64 a) W := by
  first | kernel_rfl | rfl | simp [go_sem]
set_option maxRecDepth 100000 in
theorem index1 (a b : Nat) (W : World) : (Instr.index 46 (.agg #[.float .f64 a, .float .f64 b]) (.int .i64 1)).run Tryz.prog W = .ok (.float .f64 b) W := by
  first | kernel_rfl | rfl | simp [go_sem]
end Go.Proofs.YtpfldlbdmhhjdaaGreatDoor
