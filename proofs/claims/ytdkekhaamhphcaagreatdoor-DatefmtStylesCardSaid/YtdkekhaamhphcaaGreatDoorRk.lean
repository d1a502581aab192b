/-
  Letters of dates: their ranks, how often they may stand, which letter stands for its like: the layer's functions and the reference's. No condition.
-/
import Derived.Test.YtdkekhaamhphcaaGreatDoorFd
set_option linter.unusedVariables false
set_option linter.unusedSimpArgs false
namespace Go.Proofs.YtdkekhaamhphcaaGreatDoor
open Go.RowKit
set_option maxRecDepth 100000 in
set_option maxHeartbeats 4000000 in
theorem Rank_any (b : UInt8) (w : World) : Calls Tryz.prog 62 #[.int .u8 b.toNat] w fun e w' => e = .returned (.int .i64 (rankN b.toNat : Nat)) ∧ w' = w := by
  by_cases k71 : b.toNat = 71
  · rw [k71, show rankN 71 = 1 from rfl]
    clear k71
    go_enter Tryz.func62, Tryz.ntmps62
    go_wp2
    refine bodyPost_ret (v := .int .i64 1) ?_ rfl ⟨rfl, rfl⟩
    simp [results, Tryz.results62, go_sem]
  by_cases k121 : b.toNat = 121
  · rw [k121, show rankN 121 = 2 from rfl]
    clear k121
    go_enter Tryz.func62, Tryz.ntmps62
    go_wp2
    refine bodyPost_ret (v := .int .i64 2) ?_ rfl ⟨rfl, rfl⟩
    simp [results, Tryz.results62, go_sem]
  by_cases k77 : b.toNat = 77
  · rw [k77, show rankN 77 = 3 from rfl]
    clear k77
    go_enter Tryz.func62, Tryz.ntmps62
    go_wp2
    refine bodyPost_ret (v := .int .i64 3) ?_ rfl ⟨rfl, rfl⟩
    simp [results, Tryz.results62, go_sem]
  by_cases k76 : b.toNat = 76
  · rw [k76, show rankN 76 = 3 from rfl]
    clear k76
    go_enter Tryz.func62, Tryz.ntmps62
    go_wp2
    refine bodyPost_ret (v := .int .i64 3) ?_ rfl ⟨rfl, rfl⟩
    simp [results, Tryz.results62, go_sem]
  by_cases k119 : b.toNat = 119
  · rw [k119, show rankN 119 = 4 from rfl]
    clear k119
    go_enter Tryz.func62, Tryz.ntmps62
    go_wp2
    refine bodyPost_ret (v := .int .i64 4) ?_ rfl ⟨rfl, rfl⟩
    simp [results, Tryz.results62, go_sem]
  by_cases k69 : b.toNat = 69
  · rw [k69, show rankN 69 = 5 from rfl]
    clear k69
    go_enter Tryz.func62, Tryz.ntmps62
    go_wp2
    refine bodyPost_ret (v := .int .i64 5) ?_ rfl ⟨rfl, rfl⟩
    simp [results, Tryz.results62, go_sem]
  by_cases k99 : b.toNat = 99
  · rw [k99, show rankN 99 = 5 from rfl]
    clear k99
    go_enter Tryz.func62, Tryz.ntmps62
    go_wp2
    refine bodyPost_ret (v := .int .i64 5) ?_ rfl ⟨rfl, rfl⟩
    simp [results, Tryz.results62, go_sem]
  by_cases k100 : b.toNat = 100
  · rw [k100, show rankN 100 = 6 from rfl]
    clear k100
    go_enter Tryz.func62, Tryz.ntmps62
    go_wp2
    refine bodyPost_ret (v := .int .i64 6) ?_ rfl ⟨rfl, rfl⟩
    simp [results, Tryz.results62, go_sem]
  by_cases k68 : b.toNat = 68
  · rw [k68, show rankN 68 = 7 from rfl]
    clear k68
    go_enter Tryz.func62, Tryz.ntmps62
    go_wp2
    refine bodyPost_ret (v := .int .i64 7) ?_ rfl ⟨rfl, rfl⟩
    simp [results, Tryz.results62, go_sem]
  by_cases k97 : b.toNat = 97
  · rw [k97, show rankN 97 = 8 from rfl]
    clear k97
    go_enter Tryz.func62, Tryz.ntmps62
    go_wp2
    refine bodyPost_ret (v := .int .i64 8) ?_ rfl ⟨rfl, rfl⟩
    simp [results, Tryz.results62, go_sem]
  by_cases k98 : b.toNat = 98
  · rw [k98, show rankN 98 = 8 from rfl]
    clear k98
    go_enter Tryz.func62, Tryz.ntmps62
    go_wp2
    refine bodyPost_ret (v := .int .i64 8) ?_ rfl ⟨rfl, rfl⟩
    simp [results, Tryz.results62, go_sem]
  by_cases k104 : b.toNat = 104
  · rw [k104, show rankN 104 = 9 from rfl]
    clear k104
    go_enter Tryz.func62, Tryz.ntmps62
    go_wp2
    refine bodyPost_ret (v := .int .i64 9) ?_ rfl ⟨rfl, rfl⟩
    simp [results, Tryz.results62, go_sem]
  by_cases k72 : b.toNat = 72
  · rw [k72, show rankN 72 = 9 from rfl]
    clear k72
    go_enter Tryz.func62, Tryz.ntmps62
    go_wp2
    refine bodyPost_ret (v := .int .i64 9) ?_ rfl ⟨rfl, rfl⟩
    simp [results, Tryz.results62, go_sem]
  by_cases k75 : b.toNat = 75
  · rw [k75, show rankN 75 = 9 from rfl]
    clear k75
    go_enter Tryz.func62, Tryz.ntmps62
    go_wp2
    refine bodyPost_ret (v := .int .i64 9) ?_ rfl ⟨rfl, rfl⟩
    simp [results, Tryz.results62, go_sem]
  by_cases k107 : b.toNat = 107
  · rw [k107, show rankN 107 = 9 from rfl]
    clear k107
    go_enter Tryz.func62, Tryz.ntmps62
    go_wp2
    refine bodyPost_ret (v := .int .i64 9) ?_ rfl ⟨rfl, rfl⟩
    simp [results, Tryz.results62, go_sem]
  by_cases k109 : b.toNat = 109
  · rw [k109, show rankN 109 = 10 from rfl]
    clear k109
    go_enter Tryz.func62, Tryz.ntmps62
    go_wp2
    refine bodyPost_ret (v := .int .i64 10) ?_ rfl ⟨rfl, rfl⟩
    simp [results, Tryz.results62, go_sem]
  by_cases k115 : b.toNat = 115
  · rw [k115, show rankN 115 = 11 from rfl]
    clear k115
    go_enter Tryz.func62, Tryz.ntmps62
    go_wp2
    refine bodyPost_ret (v := .int .i64 11) ?_ rfl ⟨rfl, rfl⟩
    simp [results, Tryz.results62, go_sem]
  by_cases k83 : b.toNat = 83
  · rw [k83, show rankN 83 = 12 from rfl]
    clear k83
    go_enter Tryz.func62, Tryz.ntmps62
    go_wp2
    refine bodyPost_ret (v := .int .i64 12) ?_ rfl ⟨rfl, rfl⟩
    simp [results, Tryz.results62, go_sem]
  by_cases k90 : b.toNat = 90
  · rw [k90, show rankN 90 = 13 from rfl]
    clear k90
    go_enter Tryz.func62, Tryz.ntmps62
    go_wp2
    refine bodyPost_ret (v := .int .i64 13) ?_ rfl ⟨rfl, rfl⟩
    simp [results, Tryz.results62, go_sem]
  by_cases k120 : b.toNat = 120
  · rw [k120, show rankN 120 = 13 from rfl]
    clear k120
    go_enter Tryz.func62, Tryz.ntmps62
    go_wp2
    refine bodyPost_ret (v := .int .i64 13) ?_ rfl ⟨rfl, rfl⟩
    simp [results, Tryz.results62, go_sem]
  have h71 : ((b.toNat : Int) == 71) = false := (eqB b 71).trans (decide_eq_false k71)
  have h121 : ((b.toNat : Int) == 121) = false := (eqB b 121).trans (decide_eq_false k121)
  have h77 : ((b.toNat : Int) == 77) = false := (eqB b 77).trans (decide_eq_false k77)
  have h76 : ((b.toNat : Int) == 76) = false := (eqB b 76).trans (decide_eq_false k76)
  have h119 : ((b.toNat : Int) == 119) = false := (eqB b 119).trans (decide_eq_false k119)
  have h69 : ((b.toNat : Int) == 69) = false := (eqB b 69).trans (decide_eq_false k69)
  have h99 : ((b.toNat : Int) == 99) = false := (eqB b 99).trans (decide_eq_false k99)
  have h100 : ((b.toNat : Int) == 100) = false := (eqB b 100).trans (decide_eq_false k100)
  have h68 : ((b.toNat : Int) == 68) = false := (eqB b 68).trans (decide_eq_false k68)
  have h97 : ((b.toNat : Int) == 97) = false := (eqB b 97).trans (decide_eq_false k97)
  have h98 : ((b.toNat : Int) == 98) = false := (eqB b 98).trans (decide_eq_false k98)
  have h104 : ((b.toNat : Int) == 104) = false := (eqB b 104).trans (decide_eq_false k104)
  have h72 : ((b.toNat : Int) == 72) = false := (eqB b 72).trans (decide_eq_false k72)
  have h75 : ((b.toNat : Int) == 75) = false := (eqB b 75).trans (decide_eq_false k75)
  have h107 : ((b.toNat : Int) == 107) = false := (eqB b 107).trans (decide_eq_false k107)
  have h109 : ((b.toNat : Int) == 109) = false := (eqB b 109).trans (decide_eq_false k109)
  have h115 : ((b.toNat : Int) == 115) = false := (eqB b 115).trans (decide_eq_false k115)
  have h83 : ((b.toNat : Int) == 83) = false := (eqB b 83).trans (decide_eq_false k83)
  have h90 : ((b.toNat : Int) == 90) = false := (eqB b 90).trans (decide_eq_false k90)
  have h120 : ((b.toNat : Int) == 120) = false := (eqB b 120).trans (decide_eq_false k120)
  have e : rankN b.toNat = 0 := by unfold rankN; simp only [k71, k121, k77, k76, k119, k69, k99, k100, k68, k97, k98, k104, k72, k75, k107, k109, k115, k83, k90, k120, or_self, if_false]
  rw [e]
  clear e k71 k121 k77 k76 k119 k69 k99 k100 k68 k97 k98 k104 k72 k75 k107 k109 k115 k83 k90 k120
  go_enter Tryz.func62, Tryz.ntmps62
  go_wp2
  refine bodyPost_ret (v := .int .i64 (0 : Nat)) ?_ rfl ⟨rfl, rfl⟩
  simp [results, Tryz.results62, go_sem]
set_option maxRecDepth 100000 in
set_option maxHeartbeats 4000000 in
theorem plain_any (b : UInt8) (w : World) : Calls Tryz.prog 64 #[.int .u8 b.toNat] w fun e w' => e = .returned (.int .u8 (plainN b.toNat : Nat)) ∧ w' = w := by
  by_cases k76 : b.toNat = 76
  · rw [k76, show plainN 76 = 77 from rfl]
    clear k76
    go_enter Tryz.func64, Tryz.ntmps64
    go_wp2
    refine bodyPost_ret (v := .int .u8 77) ?_ rfl ⟨rfl, rfl⟩
    simp [results, Tryz.results64, go_sem]
  by_cases k99 : b.toNat = 99
  · rw [k99, show plainN 99 = 69 from rfl]
    clear k99
    go_enter Tryz.func64, Tryz.ntmps64
    go_wp2
    refine bodyPost_ret (v := .int .u8 69) ?_ rfl ⟨rfl, rfl⟩
    simp [results, Tryz.results64, go_sem]
  by_cases k75 : b.toNat = 75
  · rw [k75, show plainN 75 = 104 from rfl]
    clear k75
    go_enter Tryz.func64, Tryz.ntmps64
    go_wp2
    refine bodyPost_ret (v := .int .u8 104) ?_ rfl ⟨rfl, rfl⟩
    simp [results, Tryz.results64, go_sem]
  by_cases k107 : b.toNat = 107
  · rw [k107, show plainN 107 = 72 from rfl]
    clear k107
    go_enter Tryz.func64, Tryz.ntmps64
    go_wp2
    refine bodyPost_ret (v := .int .u8 72) ?_ rfl ⟨rfl, rfl⟩
    simp [results, Tryz.results64, go_sem]
  by_cases k120 : b.toNat = 120
  · rw [k120, show plainN 120 = 90 from rfl]
    clear k120
    go_enter Tryz.func64, Tryz.ntmps64
    go_wp2
    refine bodyPost_ret (v := .int .u8 90) ?_ rfl ⟨rfl, rfl⟩
    simp [results, Tryz.results64, go_sem]
  have h76 : ((b.toNat : Int) == 76) = false := (eqB b 76).trans (decide_eq_false k76)
  have h99 : ((b.toNat : Int) == 99) = false := (eqB b 99).trans (decide_eq_false k99)
  have h75 : ((b.toNat : Int) == 75) = false := (eqB b 75).trans (decide_eq_false k75)
  have h107 : ((b.toNat : Int) == 107) = false := (eqB b 107).trans (decide_eq_false k107)
  have h120 : ((b.toNat : Int) == 120) = false := (eqB b 120).trans (decide_eq_false k120)
  have e : plainN b.toNat = b.toNat := by unfold plainN; simp only [k76, k99, k75, k107, k120, or_self, if_false]
  rw [e]
  clear e k76 k99 k75 k107 k120
  go_enter Tryz.func64, Tryz.ntmps64
  go_wp2
  refine bodyPost_ret (v := .int .u8 (b.toNat : Nat)) ?_ rfl ⟨rfl, rfl⟩
  simp [results, Tryz.results64, go_sem]
set_option maxRecDepth 100000 in
theorem midx0 (W : World) : (Instr.index 174 (.agg #[.int .i64 0, .int .i64 5, .int .i64 9, .int .i64 5, .int .i64 2, .int .i64 6, .int .i64 2, .int .i64 3, .int .i64 5, .int .i64 2, .int .i64 2, .int .i64 2, .int .i64 9, .int .i64 5]) (.int .i64 0)).run Tryz.prog W = .ok (.int .i64 0) W := by
  first | kernel_rfl | rfl | simp [go_sem]
set_option maxRecDepth 100000 in
theorem midx1 (W : World) : (Instr.index 174 (.agg #[.int .i64 0, .int .i64 5, .int .i64 9, .int .i64 5, .int .i64 2, .int .i64 6, .int .i64 2, .int .i64 3, .int .i64 5, .int .i64 2, .int .i64 2, .int .i64 2, .int .i64 9, .int .i64 5]) (.int .i64 1)).run Tryz.prog W = .ok (.int .i64 5) W := by
  first | kernel_rfl | rfl | simp [go_sem]
set_option maxRecDepth 100000 in
theorem midx2 (W : World) : (Instr.index 174 (.agg #[.int .i64 0, .int .i64 5, .int .i64 9, .int .i64 5, .int .i64 2, .int .i64 6, .int .i64 2, .int .i64 3, .int .i64 5, .int .i64 2, .int .i64 2, .int .i64 2, .int .i64 9, .int .i64 5]) (.int .i64 2)).run Tryz.prog W = .ok (.int .i64 9) W := by
  first | kernel_rfl | rfl | simp [go_sem]
set_option maxRecDepth 100000 in
theorem midx3 (W : World) : (Instr.index 174 (.agg #[.int .i64 0, .int .i64 5, .int .i64 9, .int .i64 5, .int .i64 2, .int .i64 6, .int .i64 2, .int .i64 3, .int .i64 5, .int .i64 2, .int .i64 2, .int .i64 2, .int .i64 9, .int .i64 5]) (.int .i64 3)).run Tryz.prog W = .ok (.int .i64 5) W := by
  first | kernel_rfl | rfl | simp [go_sem]
set_option maxRecDepth 100000 in
theorem midx4 (W : World) : (Instr.index 174 (.agg #[.int .i64 0, .int .i64 5, .int .i64 9, .int .i64 5, .int .i64 2, .int .i64 6, .int .i64 2, .int .i64 3, .int .i64 5, .int .i64 2, .int .i64 2, .int .i64 2, .int .i64 9, .int .i64 5]) (.int .i64 4)).run Tryz.prog W = .ok (.int .i64 2) W := by
  first | kernel_rfl | rfl | simp [go_sem]
set_option maxRecDepth 100000 in
theorem midx5 (W : World) : (Instr.index 174 (.agg #[.int .i64 0, .int .i64 5, .int .i64 9, .int .i64 5, .int .i64 2, .int .i64 6, .int .i64 2, .int .i64 3, .int .i64 5, .int .i64 2, .int .i64 2, .int .i64 2, .int .i64 9, .int .i64 5]) (.int .i64 5)).run Tryz.prog W = .ok (.int .i64 6) W := by
  first | kernel_rfl | rfl | simp [go_sem]
set_option maxRecDepth 100000 in
theorem midx6 (W : World) : (Instr.index 174 (.agg #[.int .i64 0, .int .i64 5, .int .i64 9, .int .i64 5, .int .i64 2, .int .i64 6, .int .i64 2, .int .i64 3, .int .i64 5, .int .i64 2, .int .i64 2, .int .i64 2, .int .i64 9, .int .i64 5]) (.int .i64 6)).run Tryz.prog W = .ok (.int .i64 2) W := by
  first | kernel_rfl | rfl | simp [go_sem]
set_option maxRecDepth 100000 in
theorem midx7 (W : World) : (Instr.index 174 (.agg #[.int .i64 0, .int .i64 5, .int .i64 9, .int .i64 5, .int .i64 2, .int .i64 6, .int .i64 2, .int .i64 3, .int .i64 5, .int .i64 2, .int .i64 2, .int .i64 2, .int .i64 9, .int .i64 5]) (.int .i64 7)).run Tryz.prog W = .ok (.int .i64 3) W := by
  first | kernel_rfl | rfl | simp [go_sem]
set_option maxRecDepth 100000 in
theorem midx8 (W : World) : (Instr.index 174 (.agg #[.int .i64 0, .int .i64 5, .int .i64 9, .int .i64 5, .int .i64 2, .int .i64 6, .int .i64 2, .int .i64 3, .int .i64 5, .int .i64 2, .int .i64 2, .int .i64 2, .int .i64 9, .int .i64 5]) (.int .i64 8)).run Tryz.prog W = .ok (.int .i64 5) W := by
  first | kernel_rfl | rfl | simp [go_sem]
set_option maxRecDepth 100000 in
theorem midx9 (W : World) : (Instr.index 174 (.agg #[.int .i64 0, .int .i64 5, .int .i64 9, .int .i64 5, .int .i64 2, .int .i64 6, .int .i64 2, .int .i64 3, .int .i64 5, .int .i64 2, .int .i64 2, .int .i64 2, .int .i64 9, .int .i64 5]) (.int .i64 9)).run Tryz.prog W = .ok (.int .i64 2) W := by
  first | kernel_rfl | rfl | simp [go_sem]
set_option maxRecDepth 100000 in
theorem midx10 (W : World) : (Instr.index 174 (.agg #[.int .i64 0, .int .i64 5, .int .i64 9, .int .i64 5, .int .i64 2, .int .i64 6, .int .i64 2, .int .i64 3, .int .i64 5, .int .i64 2, .int .i64 2, .int .i64 2, .int .i64 9, .int .i64 5]) (.int .i64 10)).run Tryz.prog W = .ok (.int .i64 2) W := by
  first | kernel_rfl | rfl | simp [go_sem]
set_option maxRecDepth 100000 in
theorem midx11 (W : World) : (Instr.index 174 (.agg #[.int .i64 0, .int .i64 5, .int .i64 9, .int .i64 5, .int .i64 2, .int .i64 6, .int .i64 2, .int .i64 3, .int .i64 5, .int .i64 2, .int .i64 2, .int .i64 2, .int .i64 9, .int .i64 5]) (.int .i64 11)).run Tryz.prog W = .ok (.int .i64 2) W := by
  first | kernel_rfl | rfl | simp [go_sem]
set_option maxRecDepth 100000 in
theorem midx12 (W : World) : (Instr.index 174 (.agg #[.int .i64 0, .int .i64 5, .int .i64 9, .int .i64 5, .int .i64 2, .int .i64 6, .int .i64 2, .int .i64 3, .int .i64 5, .int .i64 2, .int .i64 2, .int .i64 2, .int .i64 9, .int .i64 5]) (.int .i64 12)).run Tryz.prog W = .ok (.int .i64 9) W := by
  first | kernel_rfl | rfl | simp [go_sem]
set_option maxRecDepth 100000 in
theorem midx13 (W : World) : (Instr.index 174 (.agg #[.int .i64 0, .int .i64 5, .int .i64 9, .int .i64 5, .int .i64 2, .int .i64 6, .int .i64 2, .int .i64 3, .int .i64 5, .int .i64 2, .int .i64 2, .int .i64 2, .int .i64 9, .int .i64 5]) (.int .i64 13)).run Tryz.prog W = .ok (.int .i64 5) W := by
  first | kernel_rfl | rfl | simp [go_sem]
set_option maxRecDepth 100000 in
set_option maxHeartbeats 4000000 in
theorem most_any : ∀ (r : Nat) (h : r ≤ 13) (w : World), Calls Tryz.prog 63 #[.int .i64 r] w fun e w' => e = .returned (.int .i64 (mostN r : Nat)) ∧ w' = w
  | 0, _, w => by
    show Calls Tryz.prog 63 #[.int .i64 0] w fun e w' => e = .returned (.int .i64 0) ∧ w' = w
    have hi := midx0
    go_enter Tryz.func63, Tryz.ntmps63
    go_wp2
    refine bodyPost_ret (v := .int .i64 0) ?_ rfl ⟨rfl, rfl⟩
    simp [results, Tryz.results63, go_sem]
  | 1, _, w => by
    show Calls Tryz.prog 63 #[.int .i64 1] w fun e w' => e = .returned (.int .i64 5) ∧ w' = w
    have hi := midx1
    go_enter Tryz.func63, Tryz.ntmps63
    go_wp2
    refine bodyPost_ret (v := .int .i64 5) ?_ rfl ⟨rfl, rfl⟩
    simp [results, Tryz.results63, go_sem]
  | 2, _, w => by
    show Calls Tryz.prog 63 #[.int .i64 2] w fun e w' => e = .returned (.int .i64 9) ∧ w' = w
    have hi := midx2
    go_enter Tryz.func63, Tryz.ntmps63
    go_wp2
    refine bodyPost_ret (v := .int .i64 9) ?_ rfl ⟨rfl, rfl⟩
    simp [results, Tryz.results63, go_sem]
  | 3, _, w => by
    show Calls Tryz.prog 63 #[.int .i64 3] w fun e w' => e = .returned (.int .i64 5) ∧ w' = w
    have hi := midx3
    go_enter Tryz.func63, Tryz.ntmps63
    go_wp2
    refine bodyPost_ret (v := .int .i64 5) ?_ rfl ⟨rfl, rfl⟩
    simp [results, Tryz.results63, go_sem]
  | 4, _, w => by
    show Calls Tryz.prog 63 #[.int .i64 4] w fun e w' => e = .returned (.int .i64 2) ∧ w' = w
    have hi := midx4
    go_enter Tryz.func63, Tryz.ntmps63
    go_wp2
    refine bodyPost_ret (v := .int .i64 2) ?_ rfl ⟨rfl, rfl⟩
    simp [results, Tryz.results63, go_sem]
  | 5, _, w => by
    show Calls Tryz.prog 63 #[.int .i64 5] w fun e w' => e = .returned (.int .i64 6) ∧ w' = w
    have hi := midx5
    go_enter Tryz.func63, Tryz.ntmps63
    go_wp2
    refine bodyPost_ret (v := .int .i64 6) ?_ rfl ⟨rfl, rfl⟩
    simp [results, Tryz.results63, go_sem]
  | 6, _, w => by
    show Calls Tryz.prog 63 #[.int .i64 6] w fun e w' => e = .returned (.int .i64 2) ∧ w' = w
    have hi := midx6
    go_enter Tryz.func63, Tryz.ntmps63
    go_wp2
    refine bodyPost_ret (v := .int .i64 2) ?_ rfl ⟨rfl, rfl⟩
    simp [results, Tryz.results63, go_sem]
  | 7, _, w => by
    show Calls Tryz.prog 63 #[.int .i64 7] w fun e w' => e = .returned (.int .i64 3) ∧ w' = w
    have hi := midx7
    go_enter Tryz.func63, Tryz.ntmps63
    go_wp2
    refine bodyPost_ret (v := .int .i64 3) ?_ rfl ⟨rfl, rfl⟩
    simp [results, Tryz.results63, go_sem]
  | 8, _, w => by
    show Calls Tryz.prog 63 #[.int .i64 8] w fun e w' => e = .returned (.int .i64 5) ∧ w' = w
    have hi := midx8
    go_enter Tryz.func63, Tryz.ntmps63
    go_wp2
    refine bodyPost_ret (v := .int .i64 5) ?_ rfl ⟨rfl, rfl⟩
    simp [results, Tryz.results63, go_sem]
  | 9, _, w => by
    show Calls Tryz.prog 63 #[.int .i64 9] w fun e w' => e = .returned (.int .i64 2) ∧ w' = w
    have hi := midx9
    go_enter Tryz.func63, Tryz.ntmps63
    go_wp2
    refine bodyPost_ret (v := .int .i64 2) ?_ rfl ⟨rfl, rfl⟩
    simp [results, Tryz.results63, go_sem]
  | 10, _, w => by
    show Calls Tryz.prog 63 #[.int .i64 10] w fun e w' => e = .returned (.int .i64 2) ∧ w' = w
    have hi := midx10
    go_enter Tryz.func63, Tryz.ntmps63
    go_wp2
    refine bodyPost_ret (v := .int .i64 2) ?_ rfl ⟨rfl, rfl⟩
    simp [results, Tryz.results63, go_sem]
  | 11, _, w => by
    show Calls Tryz.prog 63 #[.int .i64 11] w fun e w' => e = .returned (.int .i64 2) ∧ w' = w
    have hi := midx11
    go_enter Tryz.func63, Tryz.ntmps63
    go_wp2
    refine bodyPost_ret (v := .int .i64 2) ?_ rfl ⟨rfl, rfl⟩
    simp [results, Tryz.results63, go_sem]
  | 12, _, w => by
    show Calls Tryz.prog 63 #[.int .i64 12] w fun e w' => e = .returned (.int .i64 9) ∧ w' = w
    have hi := midx12
    go_enter Tryz.func63, Tryz.ntmps63
    go_wp2
    refine bodyPost_ret (v := .int .i64 9) ?_ rfl ⟨rfl, rfl⟩
    simp [results, Tryz.results63, go_sem]
  | 13, _, w => by
    show Calls Tryz.prog 63 #[.int .i64 13] w fun e w' => e = .returned (.int .i64 5) ∧ w' = w
    have hi := midx13
    go_enter Tryz.func63, Tryz.ntmps63
    go_wp2
    refine bodyPost_ret (v := .int .i64 5) ?_ rfl ⟨rfl, rfl⟩
    simp [results, Tryz.results63, go_sem]
  | n + 14, h, w => by omega
set_option maxRecDepth 100000 in
set_option maxHeartbeats 4000000 in
theorem letters_any : ∀ (r : Nat) (h1 : 1 ≤ r) (h : r ≤ 13) (w : World), Calls Tryz.prog 44 #[.int .i64 r] w fun e w' => e = .returned (.string ⟨(lettersT r).toArray⟩) ∧ w' = w
  | 0, h1, _, w => by omega
  | 1, _, _, w => by
    show Calls Tryz.prog 44 #[.int .i64 1] w fun e w' => e = .returned (.string ⟨#[71]⟩) ∧ w' = w
    go_enter Tryz.func44, Tryz.ntmps44
    go_wp2
    refine bodyPost_ret (v := .string ⟨#[71]⟩) ?_ rfl ⟨rfl, rfl⟩
    simp [results, Tryz.results44, go_sem]
  | 2, _, _, w => by
    show Calls Tryz.prog 44 #[.int .i64 2] w fun e w' => e = .returned (.string ⟨#[121]⟩) ∧ w' = w
    go_enter Tryz.func44, Tryz.ntmps44
    go_wp2
    refine bodyPost_ret (v := .string ⟨#[121]⟩) ?_ rfl ⟨rfl, rfl⟩
    simp [results, Tryz.results44, go_sem]
  | 3, _, _, w => by
    show Calls Tryz.prog 44 #[.int .i64 3] w fun e w' => e = .returned (.string ⟨#[77, 76]⟩) ∧ w' = w
    go_enter Tryz.func44, Tryz.ntmps44
    go_wp2
    refine bodyPost_ret (v := .string ⟨#[77, 76]⟩) ?_ rfl ⟨rfl, rfl⟩
    simp [results, Tryz.results44, go_sem]
  | 4, _, _, w => by
    show Calls Tryz.prog 44 #[.int .i64 4] w fun e w' => e = .returned (.string ⟨#[119]⟩) ∧ w' = w
    go_enter Tryz.func44, Tryz.ntmps44
    go_wp2
    refine bodyPost_ret (v := .string ⟨#[119]⟩) ?_ rfl ⟨rfl, rfl⟩
    simp [results, Tryz.results44, go_sem]
  | 5, _, _, w => by
    show Calls Tryz.prog 44 #[.int .i64 5] w fun e w' => e = .returned (.string ⟨#[69, 99]⟩) ∧ w' = w
    go_enter Tryz.func44, Tryz.ntmps44
    go_wp2
    refine bodyPost_ret (v := .string ⟨#[69, 99]⟩) ?_ rfl ⟨rfl, rfl⟩
    simp [results, Tryz.results44, go_sem]
  | 6, _, _, w => by
    show Calls Tryz.prog 44 #[.int .i64 6] w fun e w' => e = .returned (.string ⟨#[100]⟩) ∧ w' = w
    go_enter Tryz.func44, Tryz.ntmps44
    go_wp2
    refine bodyPost_ret (v := .string ⟨#[100]⟩) ?_ rfl ⟨rfl, rfl⟩
    simp [results, Tryz.results44, go_sem]
  | 7, _, _, w => by
    show Calls Tryz.prog 44 #[.int .i64 7] w fun e w' => e = .returned (.string ⟨#[68]⟩) ∧ w' = w
    go_enter Tryz.func44, Tryz.ntmps44
    go_wp2
    refine bodyPost_ret (v := .string ⟨#[68]⟩) ?_ rfl ⟨rfl, rfl⟩
    simp [results, Tryz.results44, go_sem]
  | 8, _, _, w => by
    show Calls Tryz.prog 44 #[.int .i64 8] w fun e w' => e = .returned (.string ⟨#[97, 98]⟩) ∧ w' = w
    go_enter Tryz.func44, Tryz.ntmps44
    go_wp2
    refine bodyPost_ret (v := .string ⟨#[97, 98]⟩) ?_ rfl ⟨rfl, rfl⟩
    simp [results, Tryz.results44, go_sem]
  | 9, _, _, w => by
    show Calls Tryz.prog 44 #[.int .i64 9] w fun e w' => e = .returned (.string ⟨#[104, 72, 75, 107]⟩) ∧ w' = w
    go_enter Tryz.func44, Tryz.ntmps44
    go_wp2
    refine bodyPost_ret (v := .string ⟨#[104, 72, 75, 107]⟩) ?_ rfl ⟨rfl, rfl⟩
    simp [results, Tryz.results44, go_sem]
  | 10, _, _, w => by
    show Calls Tryz.prog 44 #[.int .i64 10] w fun e w' => e = .returned (.string ⟨#[109]⟩) ∧ w' = w
    go_enter Tryz.func44, Tryz.ntmps44
    go_wp2
    refine bodyPost_ret (v := .string ⟨#[109]⟩) ?_ rfl ⟨rfl, rfl⟩
    simp [results, Tryz.results44, go_sem]
  | 11, _, _, w => by
    show Calls Tryz.prog 44 #[.int .i64 11] w fun e w' => e = .returned (.string ⟨#[115]⟩) ∧ w' = w
    go_enter Tryz.func44, Tryz.ntmps44
    go_wp2
    refine bodyPost_ret (v := .string ⟨#[115]⟩) ?_ rfl ⟨rfl, rfl⟩
    simp [results, Tryz.results44, go_sem]
  | 12, _, _, w => by
    show Calls Tryz.prog 44 #[.int .i64 12] w fun e w' => e = .returned (.string ⟨#[83]⟩) ∧ w' = w
    go_enter Tryz.func44, Tryz.ntmps44
    go_wp2
    refine bodyPost_ret (v := .string ⟨#[83]⟩) ?_ rfl ⟨rfl, rfl⟩
    simp [results, Tryz.results44, go_sem]
  | 13, _, _, w => by
    show Calls Tryz.prog 44 #[.int .i64 13] w fun e w' => e = .returned (.string ⟨#[90, 120]⟩) ∧ w' = w
    go_enter Tryz.func44, Tryz.ntmps44
    go_wp2
    refine bodyPost_ret (v := .string ⟨#[90, 120]⟩) ?_ rfl ⟨rfl, rfl⟩
    simp [results, Tryz.results44, go_sem]
  | n + 14, _, h, w => by omega
set_option maxRecDepth 100000 in
set_option maxHeartbeats 4000000 in
theorem Most_any : ∀ (r : Nat) (h1 : 1 ≤ r) (h : r ≤ 13) (w : World), Calls Tryz.prog 21 #[.int .i64 r] w fun e w' => e = .returned (.int .i64 (mostN r : Nat)) ∧ w' = w
  | 0, h1, _, w => by omega
  | 1, _, _, w => by
    show Calls Tryz.prog 21 #[.int .i64 1] w fun e w' => e = .returned (.int .i64 5) ∧ w' = w
    go_enter Tryz.func21, Tryz.ntmps21
    go_wp2
    refine bodyPost_ret (v := .int .i64 5) ?_ rfl ⟨rfl, rfl⟩
    simp [results, Tryz.results21, go_sem]
  | 2, _, _, w => by
    show Calls Tryz.prog 21 #[.int .i64 2] w fun e w' => e = .returned (.int .i64 9) ∧ w' = w
    go_enter Tryz.func21, Tryz.ntmps21
    go_wp2
    refine bodyPost_ret (v := .int .i64 9) ?_ rfl ⟨rfl, rfl⟩
    simp [results, Tryz.results21, go_sem]
  | 3, _, _, w => by
    show Calls Tryz.prog 21 #[.int .i64 3] w fun e w' => e = .returned (.int .i64 5) ∧ w' = w
    go_enter Tryz.func21, Tryz.ntmps21
    go_wp2
    refine bodyPost_ret (v := .int .i64 5) ?_ rfl ⟨rfl, rfl⟩
    simp [results, Tryz.results21, go_sem]
  | 4, _, _, w => by
    show Calls Tryz.prog 21 #[.int .i64 4] w fun e w' => e = .returned (.int .i64 2) ∧ w' = w
    go_enter Tryz.func21, Tryz.ntmps21
    go_wp2
    refine bodyPost_ret (v := .int .i64 2) ?_ rfl ⟨rfl, rfl⟩
    simp [results, Tryz.results21, go_sem]
  | 5, _, _, w => by
    show Calls Tryz.prog 21 #[.int .i64 5] w fun e w' => e = .returned (.int .i64 6) ∧ w' = w
    go_enter Tryz.func21, Tryz.ntmps21
    go_wp2
    refine bodyPost_ret (v := .int .i64 6) ?_ rfl ⟨rfl, rfl⟩
    simp [results, Tryz.results21, go_sem]
  | 6, _, _, w => by
    show Calls Tryz.prog 21 #[.int .i64 6] w fun e w' => e = .returned (.int .i64 2) ∧ w' = w
    go_enter Tryz.func21, Tryz.ntmps21
    go_wp2
    refine bodyPost_ret (v := .int .i64 2) ?_ rfl ⟨rfl, rfl⟩
    simp [results, Tryz.results21, go_sem]
  | 7, _, _, w => by
    show Calls Tryz.prog 21 #[.int .i64 7] w fun e w' => e = .returned (.int .i64 3) ∧ w' = w
    go_enter Tryz.func21, Tryz.ntmps21
    go_wp2
    refine bodyPost_ret (v := .int .i64 3) ?_ rfl ⟨rfl, rfl⟩
    simp [results, Tryz.results21, go_sem]
  | 8, _, _, w => by
    show Calls Tryz.prog 21 #[.int .i64 8] w fun e w' => e = .returned (.int .i64 5) ∧ w' = w
    go_enter Tryz.func21, Tryz.ntmps21
    go_wp2
    refine bodyPost_ret (v := .int .i64 5) ?_ rfl ⟨rfl, rfl⟩
    simp [results, Tryz.results21, go_sem]
  | 9, _, _, w => by
    show Calls Tryz.prog 21 #[.int .i64 9] w fun e w' => e = .returned (.int .i64 2) ∧ w' = w
    go_enter Tryz.func21, Tryz.ntmps21
    go_wp2
    refine bodyPost_ret (v := .int .i64 2) ?_ rfl ⟨rfl, rfl⟩
    simp [results, Tryz.results21, go_sem]
  | 10, _, _, w => by
    show Calls Tryz.prog 21 #[.int .i64 10] w fun e w' => e = .returned (.int .i64 2) ∧ w' = w
    go_enter Tryz.func21, Tryz.ntmps21
    go_wp2
    refine bodyPost_ret (v := .int .i64 2) ?_ rfl ⟨rfl, rfl⟩
    simp [results, Tryz.results21, go_sem]
  | 11, _, _, w => by
    show Calls Tryz.prog 21 #[.int .i64 11] w fun e w' => e = .returned (.int .i64 2) ∧ w' = w
    go_enter Tryz.func21, Tryz.ntmps21
    go_wp2
    refine bodyPost_ret (v := .int .i64 2) ?_ rfl ⟨rfl, rfl⟩
    simp [results, Tryz.results21, go_sem]
  | 12, _, _, w => by
    show Calls Tryz.prog 21 #[.int .i64 12] w fun e w' => e = .returned (.int .i64 9) ∧ w' = w
    go_enter Tryz.func21, Tryz.ntmps21
    go_wp2
    refine bodyPost_ret (v := .int .i64 9) ?_ rfl ⟨rfl, rfl⟩
    simp [results, Tryz.results21, go_sem]
  | 13, _, _, w => by
    show Calls Tryz.prog 21 #[.int .i64 13] w fun e w' => e = .returned (.int .i64 5) ∧ w' = w
    go_enter Tryz.func21, Tryz.ntmps21
    go_wp2
    refine bodyPost_ret (v := .int .i64 5) ?_ rfl ⟨rfl, rfl⟩
    simp [results, Tryz.results21, go_sem]
  | n + 14, _, h, w => by omega
end Go.Proofs.YtdkekhaamhphcaaGreatDoor
