/-
  Contracts of the reference's Right and of civil.Seconds over every civil. Conditions: those that each theorem names.
-/
import Derived.Test.YtafoodfbjebdcaaH
import Derived.Test.YtafoodfbjebdcaaG
import Derived.WalkKit
import Derived.ProofKit
import Derived.OpenShut
import Derived.Deep.QuietTactic
import Derived.BigQuiet
import Derived.Lib.Hide
import Derived.WalkLawsBesides
import Derived.Lib.QuietBelow
namespace Go.Proofs.Ytafoodfbjebdcaa
open Go.ChangeShapes Go.WideShapes Go.ChangeAt Go.RowKit
theorem dayRB (y m : Int) (w : World) : Calls Try.prog 18 #[.int .i64 y, .int .i64 m] w fun e w' => e = .returned (.int .i64 (Cal.days y m)) ∧ Below w.heap.size w w' :=
  (dayR y m w).mono fun _ _ ⟨h, h'⟩ => ⟨h, by subst h'; exact Below.refl _ _⟩
theorem numberB (y m d : Int) (hy : -1000000 ≤ y) (hy' : y ≤ 1000000) (hm : 1 ≤ m) (hm' : m ≤ 12) (hd : -1000000000000000 ≤ d) (hd' : d ≤ 1000000000000000) (w : World) :
    Calls Try.prog 36 #[.int .i64 y, .int .i64 m, .int .i64 d] w fun e w' => e = .returned (.int .i64 (Cal.num y m d)) ∧ Below w.heap.size w w' :=
  (number_any y m d hy hy' hm hm' hd hd' w).mono fun _ _ ⟨h, k, h'⟩ => ⟨h, by subst h'; exact blw_drewN (Below.refl _ _) k⟩
theorem Right_n0 (y mo d h mi s wd yd : Int) (t0 : d < 1) (w : World) :
    Calls Try.prog 23 #[CV y mo d h mi s wd yd] w fun e w' => e = .returned (.bool false) ∧ Below w.heap.size w w' := by
  have e0 : decide (d < 1) = true := by simp; omega
  unfold CV
  go_enter Try.func23, Try.ntmps23
  have L0 : Below w.heap.size w w := Below.refl _ _
  go_wp2_with fail
  have L1 : Below w.heap.size w (w.alloc (.cells #[.int .i64 y, .int .i64 mo, .int .i64 d, .int .i64 h, .int .i64 mi, .int .i64 s, .int .i64 wd, .int .i64 yd] 24)) := L0.alloc L0.size _
  have bp_1 := Blk8.new w (.int .i64 y) (.int .i64 mo) (.int .i64 d) (.int .i64 h) (.int .i64 mi) (.int .i64 s) (.int .i64 wd) (.int .i64 yd) 24
  clear L0
  generalize (w.alloc (.cells #[.int .i64 y, .int .i64 mo, .int .i64 d, .int .i64 h, .int .i64 mi, .int .i64 s, .int .i64 wd, .int .i64 yd] 24)) = v2 at *
  have pbp0 := fun dr os => cell_regrown bp_1.a0 dr os
  have pbp1 := fun dr os => cell_regrown bp_1.a1 dr os
  have pbp2 := fun dr os => cell_regrown bp_1.a2 dr os
  have pbp3 := fun dr os => cell_regrown bp_1.a3 dr os
  have pbp4 := fun dr os => cell_regrown bp_1.a4 dr os
  have pbp5 := fun dr os => cell_regrown bp_1.a5 dr os
  have pbp6 := fun dr os => cell_regrown bp_1.a6 dr os
  have pbp7 := fun dr os => cell_regrown bp_1.a7 dr os
  refine wp_region_quiet_below (by kernel_rfl) (by kernel_rfl) ?_
  repeat (any_goals (first | go_big_quiet_step ((go_at_call 18; exact Calls.regrown_of (dayRB _ _ _))) | quiet_step ((go_at_call 18; exact Calls.regrown_of (dayRB _ _ _)))))
  refine wpQuiet_nil ?_
  intro _ hw'
  obtain ⟨⟨dq3, osq3⟩, hw''⟩ := hw'
  subst hw''
  clear pbp0 pbp1 pbp2 pbp3 pbp4 pbp5 pbp6 pbp7
  have L3 := L1.trans ((below_regrown v2 dq3 osq3).mono L1.size)
  have bp_3 := bp_1.below (below_regrown v2 dq3 osq3)
  clear bp_1
  clear L1
  generalize (Go.Sort.grow (redrawn v2 dq3) osq3) = v4 at *
  go_wp2_with fail
  go_ret
  exact ⟨rfl, L3⟩
theorem Right_n1 (y mo d h mi s wd yd : Int) (t0 : ¬ d < 1) (t1 : Cal.days y mo < d) (w : World) :
    Calls Try.prog 23 #[CV y mo d h mi s wd yd] w fun e w' => e = .returned (.bool false) ∧ Below w.heap.size w w' := by
  have e0 : decide (d < 1) = false := by simp; omega
  have e1 : decide (Cal.days y mo < d) = true := by simp; omega
  unfold CV
  go_enter Try.func23, Try.ntmps23
  have L0 : Below w.heap.size w w := Below.refl _ _
  go_wp2_with fail
  have L1 : Below w.heap.size w (w.alloc (.cells #[.int .i64 y, .int .i64 mo, .int .i64 d, .int .i64 h, .int .i64 mi, .int .i64 s, .int .i64 wd, .int .i64 yd] 24)) := L0.alloc L0.size _
  have bp_1 := Blk8.new w (.int .i64 y) (.int .i64 mo) (.int .i64 d) (.int .i64 h) (.int .i64 mi) (.int .i64 s) (.int .i64 wd) (.int .i64 yd) 24
  clear L0
  generalize (w.alloc (.cells #[.int .i64 y, .int .i64 mo, .int .i64 d, .int .i64 h, .int .i64 mi, .int .i64 s, .int .i64 wd, .int .i64 yd] 24)) = v2 at *
  have pbp0 := fun dr os => cell_regrown bp_1.a0 dr os
  have pbp1 := fun dr os => cell_regrown bp_1.a1 dr os
  have pbp2 := fun dr os => cell_regrown bp_1.a2 dr os
  have pbp3 := fun dr os => cell_regrown bp_1.a3 dr os
  have pbp4 := fun dr os => cell_regrown bp_1.a4 dr os
  have pbp5 := fun dr os => cell_regrown bp_1.a5 dr os
  have pbp6 := fun dr os => cell_regrown bp_1.a6 dr os
  have pbp7 := fun dr os => cell_regrown bp_1.a7 dr os
  refine wp_region_quiet_below (by kernel_rfl) (by kernel_rfl) ?_
  repeat (any_goals (first | go_big_quiet_step ((go_at_call 18; exact Calls.regrown_of (dayRB _ _ _))) | quiet_step ((go_at_call 18; exact Calls.regrown_of (dayRB _ _ _)))))
  refine wpQuiet_nil ?_
  intro _ hw'
  obtain ⟨⟨dq3, osq3⟩, hw''⟩ := hw'
  subst hw''
  clear pbp0 pbp1 pbp2 pbp3 pbp4 pbp5 pbp6 pbp7
  have L3 := L1.trans ((below_regrown v2 dq3 osq3).mono L1.size)
  have bp_3 := bp_1.below (below_regrown v2 dq3 osq3)
  clear bp_1
  clear L1
  generalize (Go.Sort.grow (redrawn v2 dq3) osq3) = v4 at *
  go_wp2_with fail
  go_ret
  exact ⟨rfl, L3⟩
theorem Right_n2 (y mo d h mi s wd yd : Int) (t0 : ¬ d < 1) (t1 : ¬ Cal.days y mo < d) (t2 : h < 0) (w : World) :
    Calls Try.prog 23 #[CV y mo d h mi s wd yd] w fun e w' => e = .returned (.bool false) ∧ Below w.heap.size w w' := by
  have e0 : decide (d < 1) = false := by simp; omega
  have e1 : decide (Cal.days y mo < d) = false := by simp; omega
  have e2 : decide (h < 0) = true := by simp; omega
  unfold CV
  go_enter Try.func23, Try.ntmps23
  have L0 : Below w.heap.size w w := Below.refl _ _
  go_wp2_with fail
  have L1 : Below w.heap.size w (w.alloc (.cells #[.int .i64 y, .int .i64 mo, .int .i64 d, .int .i64 h, .int .i64 mi, .int .i64 s, .int .i64 wd, .int .i64 yd] 24)) := L0.alloc L0.size _
  have bp_1 := Blk8.new w (.int .i64 y) (.int .i64 mo) (.int .i64 d) (.int .i64 h) (.int .i64 mi) (.int .i64 s) (.int .i64 wd) (.int .i64 yd) 24
  clear L0
  generalize (w.alloc (.cells #[.int .i64 y, .int .i64 mo, .int .i64 d, .int .i64 h, .int .i64 mi, .int .i64 s, .int .i64 wd, .int .i64 yd] 24)) = v2 at *
  have pbp0 := fun dr os => cell_regrown bp_1.a0 dr os
  have pbp1 := fun dr os => cell_regrown bp_1.a1 dr os
  have pbp2 := fun dr os => cell_regrown bp_1.a2 dr os
  have pbp3 := fun dr os => cell_regrown bp_1.a3 dr os
  have pbp4 := fun dr os => cell_regrown bp_1.a4 dr os
  have pbp5 := fun dr os => cell_regrown bp_1.a5 dr os
  have pbp6 := fun dr os => cell_regrown bp_1.a6 dr os
  have pbp7 := fun dr os => cell_regrown bp_1.a7 dr os
  refine wp_region_quiet_below (by kernel_rfl) (by kernel_rfl) ?_
  repeat (any_goals (first | go_big_quiet_step ((go_at_call 18; exact Calls.regrown_of (dayRB _ _ _))) | quiet_step ((go_at_call 18; exact Calls.regrown_of (dayRB _ _ _)))))
  refine wpQuiet_nil ?_
  intro _ hw'
  obtain ⟨⟨dq3, osq3⟩, hw''⟩ := hw'
  subst hw''
  clear pbp0 pbp1 pbp2 pbp3 pbp4 pbp5 pbp6 pbp7
  have L3 := L1.trans ((below_regrown v2 dq3 osq3).mono L1.size)
  have bp_3 := bp_1.below (below_regrown v2 dq3 osq3)
  clear bp_1
  clear L1
  generalize (Go.Sort.grow (redrawn v2 dq3) osq3) = v4 at *
  go_wp2_with fail
  go_ret
  exact ⟨rfl, L3⟩
theorem Right_n3 (y mo d h mi s wd yd : Int) (t0 : ¬ d < 1) (t1 : ¬ Cal.days y mo < d) (_t2 : ¬ h < 0) (t3 : 23 < h) (w : World) :
    Calls Try.prog 23 #[CV y mo d h mi s wd yd] w fun e w' => e = .returned (.bool false) ∧ Below w.heap.size w w' := by
  have e0 : decide (d < 1) = false := by simp; omega
  have e1 : decide (Cal.days y mo < d) = false := by simp; omega
  have e2 : decide (h < 0) = false := by simp; omega
  have e3 : decide (23 < h) = true := by simp; omega
  unfold CV
  go_enter Try.func23, Try.ntmps23
  have L0 : Below w.heap.size w w := Below.refl _ _
  go_wp2_with fail
  have L1 : Below w.heap.size w (w.alloc (.cells #[.int .i64 y, .int .i64 mo, .int .i64 d, .int .i64 h, .int .i64 mi, .int .i64 s, .int .i64 wd, .int .i64 yd] 24)) := L0.alloc L0.size _
  have bp_1 := Blk8.new w (.int .i64 y) (.int .i64 mo) (.int .i64 d) (.int .i64 h) (.int .i64 mi) (.int .i64 s) (.int .i64 wd) (.int .i64 yd) 24
  clear L0
  generalize (w.alloc (.cells #[.int .i64 y, .int .i64 mo, .int .i64 d, .int .i64 h, .int .i64 mi, .int .i64 s, .int .i64 wd, .int .i64 yd] 24)) = v2 at *
  have pbp0 := fun dr os => cell_regrown bp_1.a0 dr os
  have pbp1 := fun dr os => cell_regrown bp_1.a1 dr os
  have pbp2 := fun dr os => cell_regrown bp_1.a2 dr os
  have pbp3 := fun dr os => cell_regrown bp_1.a3 dr os
  have pbp4 := fun dr os => cell_regrown bp_1.a4 dr os
  have pbp5 := fun dr os => cell_regrown bp_1.a5 dr os
  have pbp6 := fun dr os => cell_regrown bp_1.a6 dr os
  have pbp7 := fun dr os => cell_regrown bp_1.a7 dr os
  refine wp_region_quiet_below (by kernel_rfl) (by kernel_rfl) ?_
  repeat (any_goals (first | go_big_quiet_step ((go_at_call 18; exact Calls.regrown_of (dayRB _ _ _))) | quiet_step ((go_at_call 18; exact Calls.regrown_of (dayRB _ _ _)))))
  refine wpQuiet_nil ?_
  intro _ hw'
  obtain ⟨⟨dq3, osq3⟩, hw''⟩ := hw'
  subst hw''
  clear pbp0 pbp1 pbp2 pbp3 pbp4 pbp5 pbp6 pbp7
  have L3 := L1.trans ((below_regrown v2 dq3 osq3).mono L1.size)
  have bp_3 := bp_1.below (below_regrown v2 dq3 osq3)
  clear bp_1
  clear L1
  generalize (Go.Sort.grow (redrawn v2 dq3) osq3) = v4 at *
  go_wp2_with fail
  go_ret
  exact ⟨rfl, L3⟩
theorem Right_n4 (y mo d h mi s wd yd : Int) (t0 : ¬ d < 1) (t1 : ¬ Cal.days y mo < d) (t2 : ¬ h < 0) (t3 : ¬ 23 < h) (t4 : mi < 0) (w : World) :
    Calls Try.prog 23 #[CV y mo d h mi s wd yd] w fun e w' => e = .returned (.bool false) ∧ Below w.heap.size w w' := by
  have e0 : decide (d < 1) = false := by simp; omega
  have e1 : decide (Cal.days y mo < d) = false := by simp; omega
  have e2 : decide (h < 0) = false := by simp; omega
  have e3 : decide (23 < h) = false := by simp; omega
  have e4 : decide (mi < 0) = true := by simp; omega
  unfold CV
  go_enter Try.func23, Try.ntmps23
  have L0 : Below w.heap.size w w := Below.refl _ _
  go_wp2_with fail
  have L1 : Below w.heap.size w (w.alloc (.cells #[.int .i64 y, .int .i64 mo, .int .i64 d, .int .i64 h, .int .i64 mi, .int .i64 s, .int .i64 wd, .int .i64 yd] 24)) := L0.alloc L0.size _
  have bp_1 := Blk8.new w (.int .i64 y) (.int .i64 mo) (.int .i64 d) (.int .i64 h) (.int .i64 mi) (.int .i64 s) (.int .i64 wd) (.int .i64 yd) 24
  clear L0
  generalize (w.alloc (.cells #[.int .i64 y, .int .i64 mo, .int .i64 d, .int .i64 h, .int .i64 mi, .int .i64 s, .int .i64 wd, .int .i64 yd] 24)) = v2 at *
  have pbp0 := fun dr os => cell_regrown bp_1.a0 dr os
  have pbp1 := fun dr os => cell_regrown bp_1.a1 dr os
  have pbp2 := fun dr os => cell_regrown bp_1.a2 dr os
  have pbp3 := fun dr os => cell_regrown bp_1.a3 dr os
  have pbp4 := fun dr os => cell_regrown bp_1.a4 dr os
  have pbp5 := fun dr os => cell_regrown bp_1.a5 dr os
  have pbp6 := fun dr os => cell_regrown bp_1.a6 dr os
  have pbp7 := fun dr os => cell_regrown bp_1.a7 dr os
  refine wp_region_quiet_below (by kernel_rfl) (by kernel_rfl) ?_
  repeat (any_goals (first | go_big_quiet_step ((go_at_call 18; exact Calls.regrown_of (dayRB _ _ _))) | quiet_step ((go_at_call 18; exact Calls.regrown_of (dayRB _ _ _)))))
  refine wpQuiet_nil ?_
  intro _ hw'
  obtain ⟨⟨dq3, osq3⟩, hw''⟩ := hw'
  subst hw''
  clear pbp0 pbp1 pbp2 pbp3 pbp4 pbp5 pbp6 pbp7
  have L3 := L1.trans ((below_regrown v2 dq3 osq3).mono L1.size)
  have bp_3 := bp_1.below (below_regrown v2 dq3 osq3)
  clear bp_1
  clear L1
  generalize (Go.Sort.grow (redrawn v2 dq3) osq3) = v4 at *
  go_wp2_with fail
  go_ret
  exact ⟨rfl, L3⟩
theorem Right_n5 (y mo d h mi s wd yd : Int) (t0 : ¬ d < 1) (t1 : ¬ Cal.days y mo < d) (t2 : ¬ h < 0) (t3 : ¬ 23 < h) (_t4 : ¬ mi < 0) (t5 : 59 < mi) (w : World) :
    Calls Try.prog 23 #[CV y mo d h mi s wd yd] w fun e w' => e = .returned (.bool false) ∧ Below w.heap.size w w' := by
  have e0 : decide (d < 1) = false := by simp; omega
  have e1 : decide (Cal.days y mo < d) = false := by simp; omega
  have e2 : decide (h < 0) = false := by simp; omega
  have e3 : decide (23 < h) = false := by simp; omega
  have e4 : decide (mi < 0) = false := by simp; omega
  have e5 : decide (59 < mi) = true := by simp; omega
  unfold CV
  go_enter Try.func23, Try.ntmps23
  have L0 : Below w.heap.size w w := Below.refl _ _
  go_wp2_with fail
  have L1 : Below w.heap.size w (w.alloc (.cells #[.int .i64 y, .int .i64 mo, .int .i64 d, .int .i64 h, .int .i64 mi, .int .i64 s, .int .i64 wd, .int .i64 yd] 24)) := L0.alloc L0.size _
  have bp_1 := Blk8.new w (.int .i64 y) (.int .i64 mo) (.int .i64 d) (.int .i64 h) (.int .i64 mi) (.int .i64 s) (.int .i64 wd) (.int .i64 yd) 24
  clear L0
  generalize (w.alloc (.cells #[.int .i64 y, .int .i64 mo, .int .i64 d, .int .i64 h, .int .i64 mi, .int .i64 s, .int .i64 wd, .int .i64 yd] 24)) = v2 at *
  have pbp0 := fun dr os => cell_regrown bp_1.a0 dr os
  have pbp1 := fun dr os => cell_regrown bp_1.a1 dr os
  have pbp2 := fun dr os => cell_regrown bp_1.a2 dr os
  have pbp3 := fun dr os => cell_regrown bp_1.a3 dr os
  have pbp4 := fun dr os => cell_regrown bp_1.a4 dr os
  have pbp5 := fun dr os => cell_regrown bp_1.a5 dr os
  have pbp6 := fun dr os => cell_regrown bp_1.a6 dr os
  have pbp7 := fun dr os => cell_regrown bp_1.a7 dr os
  refine wp_region_quiet_below (by kernel_rfl) (by kernel_rfl) ?_
  repeat (any_goals (first | go_big_quiet_step ((go_at_call 18; exact Calls.regrown_of (dayRB _ _ _))) | quiet_step ((go_at_call 18; exact Calls.regrown_of (dayRB _ _ _)))))
  refine wpQuiet_nil ?_
  intro _ hw'
  obtain ⟨⟨dq3, osq3⟩, hw''⟩ := hw'
  subst hw''
  clear pbp0 pbp1 pbp2 pbp3 pbp4 pbp5 pbp6 pbp7
  have L3 := L1.trans ((below_regrown v2 dq3 osq3).mono L1.size)
  have bp_3 := bp_1.below (below_regrown v2 dq3 osq3)
  clear bp_1
  clear L1
  generalize (Go.Sort.grow (redrawn v2 dq3) osq3) = v4 at *
  go_wp2_with fail
  go_ret
  exact ⟨rfl, L3⟩
theorem Right_n6 (y mo d h mi s wd yd : Int) (t0 : ¬ d < 1) (t1 : ¬ Cal.days y mo < d) (t2 : ¬ h < 0) (t3 : ¬ 23 < h) (t4 : ¬ mi < 0) (t5 : ¬ 59 < mi) (t6 : s < 0) (w : World) :
    Calls Try.prog 23 #[CV y mo d h mi s wd yd] w fun e w' => e = .returned (.bool false) ∧ Below w.heap.size w w' := by
  have e0 : decide (d < 1) = false := by simp; omega
  have e1 : decide (Cal.days y mo < d) = false := by simp; omega
  have e2 : decide (h < 0) = false := by simp; omega
  have e3 : decide (23 < h) = false := by simp; omega
  have e4 : decide (mi < 0) = false := by simp; omega
  have e5 : decide (59 < mi) = false := by simp; omega
  have e6 : decide (s < 0) = true := by simp; omega
  unfold CV
  go_enter Try.func23, Try.ntmps23
  have L0 : Below w.heap.size w w := Below.refl _ _
  go_wp2_with fail
  have L1 : Below w.heap.size w (w.alloc (.cells #[.int .i64 y, .int .i64 mo, .int .i64 d, .int .i64 h, .int .i64 mi, .int .i64 s, .int .i64 wd, .int .i64 yd] 24)) := L0.alloc L0.size _
  have bp_1 := Blk8.new w (.int .i64 y) (.int .i64 mo) (.int .i64 d) (.int .i64 h) (.int .i64 mi) (.int .i64 s) (.int .i64 wd) (.int .i64 yd) 24
  clear L0
  generalize (w.alloc (.cells #[.int .i64 y, .int .i64 mo, .int .i64 d, .int .i64 h, .int .i64 mi, .int .i64 s, .int .i64 wd, .int .i64 yd] 24)) = v2 at *
  have pbp0 := fun dr os => cell_regrown bp_1.a0 dr os
  have pbp1 := fun dr os => cell_regrown bp_1.a1 dr os
  have pbp2 := fun dr os => cell_regrown bp_1.a2 dr os
  have pbp3 := fun dr os => cell_regrown bp_1.a3 dr os
  have pbp4 := fun dr os => cell_regrown bp_1.a4 dr os
  have pbp5 := fun dr os => cell_regrown bp_1.a5 dr os
  have pbp6 := fun dr os => cell_regrown bp_1.a6 dr os
  have pbp7 := fun dr os => cell_regrown bp_1.a7 dr os
  refine wp_region_quiet_below (by kernel_rfl) (by kernel_rfl) ?_
  repeat (any_goals (first | go_big_quiet_step ((go_at_call 18; exact Calls.regrown_of (dayRB _ _ _))) | quiet_step ((go_at_call 18; exact Calls.regrown_of (dayRB _ _ _)))))
  refine wpQuiet_nil ?_
  intro _ hw'
  obtain ⟨⟨dq3, osq3⟩, hw''⟩ := hw'
  subst hw''
  clear pbp0 pbp1 pbp2 pbp3 pbp4 pbp5 pbp6 pbp7
  have L3 := L1.trans ((below_regrown v2 dq3 osq3).mono L1.size)
  have bp_3 := bp_1.below (below_regrown v2 dq3 osq3)
  clear bp_1
  clear L1
  generalize (Go.Sort.grow (redrawn v2 dq3) osq3) = v4 at *
  go_wp2_with fail
  go_ret
  exact ⟨rfl, L3⟩
theorem Right_n7 (y mo d h mi s wd yd : Int) (t0 : ¬ d < 1) (t1 : ¬ Cal.days y mo < d) (t2 : ¬ h < 0) (t3 : ¬ 23 < h) (t4 : ¬ mi < 0) (t5 : ¬ 59 < mi) (_t6 : ¬ s < 0) (t7 : 59 < s) (w : World) :
    Calls Try.prog 23 #[CV y mo d h mi s wd yd] w fun e w' => e = .returned (.bool false) ∧ Below w.heap.size w w' := by
  have e0 : decide (d < 1) = false := by simp; omega
  have e1 : decide (Cal.days y mo < d) = false := by simp; omega
  have e2 : decide (h < 0) = false := by simp; omega
  have e3 : decide (23 < h) = false := by simp; omega
  have e4 : decide (mi < 0) = false := by simp; omega
  have e5 : decide (59 < mi) = false := by simp; omega
  have e6 : decide (s < 0) = false := by simp; omega
  have e7 : decide (59 < s) = true := by simp; omega
  unfold CV
  go_enter Try.func23, Try.ntmps23
  have L0 : Below w.heap.size w w := Below.refl _ _
  go_wp2_with fail
  have L1 : Below w.heap.size w (w.alloc (.cells #[.int .i64 y, .int .i64 mo, .int .i64 d, .int .i64 h, .int .i64 mi, .int .i64 s, .int .i64 wd, .int .i64 yd] 24)) := L0.alloc L0.size _
  have bp_1 := Blk8.new w (.int .i64 y) (.int .i64 mo) (.int .i64 d) (.int .i64 h) (.int .i64 mi) (.int .i64 s) (.int .i64 wd) (.int .i64 yd) 24
  clear L0
  generalize (w.alloc (.cells #[.int .i64 y, .int .i64 mo, .int .i64 d, .int .i64 h, .int .i64 mi, .int .i64 s, .int .i64 wd, .int .i64 yd] 24)) = v2 at *
  have pbp0 := fun dr os => cell_regrown bp_1.a0 dr os
  have pbp1 := fun dr os => cell_regrown bp_1.a1 dr os
  have pbp2 := fun dr os => cell_regrown bp_1.a2 dr os
  have pbp3 := fun dr os => cell_regrown bp_1.a3 dr os
  have pbp4 := fun dr os => cell_regrown bp_1.a4 dr os
  have pbp5 := fun dr os => cell_regrown bp_1.a5 dr os
  have pbp6 := fun dr os => cell_regrown bp_1.a6 dr os
  have pbp7 := fun dr os => cell_regrown bp_1.a7 dr os
  refine wp_region_quiet_below (by kernel_rfl) (by kernel_rfl) ?_
  repeat (any_goals (first | go_big_quiet_step ((go_at_call 18; exact Calls.regrown_of (dayRB _ _ _))) | quiet_step ((go_at_call 18; exact Calls.regrown_of (dayRB _ _ _)))))
  refine wpQuiet_nil ?_
  intro _ hw'
  obtain ⟨⟨dq3, osq3⟩, hw''⟩ := hw'
  subst hw''
  clear pbp0 pbp1 pbp2 pbp3 pbp4 pbp5 pbp6 pbp7
  have L3 := L1.trans ((below_regrown v2 dq3 osq3).mono L1.size)
  have bp_3 := bp_1.below (below_regrown v2 dq3 osq3)
  clear bp_1
  clear L1
  generalize (Go.Sort.grow (redrawn v2 dq3) osq3) = v4 at *
  go_wp2_with fail
  go_ret
  exact ⟨rfl, L3⟩
set_option maxHeartbeats 1000000 in
theorem Right_yes (y mo d h mi s : Int) (t0 : ¬ d < 1) (t1 : ¬ Cal.days y mo < d) (t2 : ¬ h < 0) (t3 : ¬ 23 < h) (t4 : ¬ mi < 0) (t5 : ¬ 59 < mi) (t6 : ¬ s < 0) (t7 : ¬ 59 < s) (w : World) :
    Calls Try.prog 23 #[CV y mo d h mi s ((Cal.num y mo d + 4) % 7) (Cal.num y mo d - Cal.num y 1 1 + 1)] w fun e w' => e = .returned (.bool true) ∧ Below w.heap.size w w' := by
  have e0 : decide (d < 1) = false := by simp; omega
  have e1 : decide (Cal.days y mo < d) = false := by simp; omega
  have e2 : decide (h < 0) = false := by simp; omega
  have e3 : decide (23 < h) = false := by simp; omega
  have e4 : decide (mi < 0) = false := by simp; omega
  have e5 : decide (59 < mi) = false := by simp; omega
  have e6 : decide (s < 0) = false := by simp; omega
  have e7 : decide (59 < s) = false := by simp; omega
  obtain ⟨k1, k2, k3, k4, k5, k6⟩ := days_in2 (y := y) (mo := mo) (d := d) (by omega) (by omega)
  have HN := refNum y mo d h mi s ((Cal.num y mo d + 4) % 7) (Cal.num y mo d - Cal.num y 1 1 + 1) k1 k2 k3 k4 (by omega) (by omega)
  have nb := num_in3 (m := mo) (d := d) k1 k2 (by omega) (by omega)
  have HO := refOf (Cal.num y mo d) 0 (by omega) (by omega) (by omega) (by omega)
  have tn := Cal.told_num k6
  rw [show refOfV (Cal.num y mo d) 0 = .tuple #[civ (Cal.num y mo d) 0, .bool true] from if_pos (by rw [tn.1]; exact ⟨k1, k2⟩)] at HO
  obtain ⟨c1, c2, c3, c4, c5, c6, E1⟩ : ∃ c1 c2 c3 c4 c5 c6 : Int, civ (Cal.num y mo d) 0 = .agg #[.int .i64 c1, .int .i64 c2, .int .i64 c3, .int .i64 c4, .int .i64 c5, .int .i64 c6, .int .i64 ((Cal.num y mo d + 4) % 7), .int .i64 (Cal.num y mo d - Cal.num y 1 1 + 1)] := ⟨_, _, _, _, _, _, by unfold civ; rw [tn.1]⟩
  rw [E1] at HO
  clear E1 tn k6
  unfold CV
  go_enter Try.func23, Try.ntmps23
  have L0 : Below w.heap.size w w := Below.refl _ _
  go_wp2_with fail
  have L1 : Below w.heap.size w (w.alloc (.cells #[.int .i64 y, .int .i64 mo, .int .i64 d, .int .i64 h, .int .i64 mi, .int .i64 s, .int .i64 ((Cal.num y mo d + 4) % 7), .int .i64 (Cal.num y mo d - Cal.num y 1 1 + 1)] 24)) := L0.alloc L0.size _
  have bp_1 := Blk8.new w (.int .i64 y) (.int .i64 mo) (.int .i64 d) (.int .i64 h) (.int .i64 mi) (.int .i64 s) (.int .i64 ((Cal.num y mo d + 4) % 7)) (.int .i64 (Cal.num y mo d - Cal.num y 1 1 + 1)) 24
  clear L0
  generalize (w.alloc (.cells #[.int .i64 y, .int .i64 mo, .int .i64 d, .int .i64 h, .int .i64 mi, .int .i64 s, .int .i64 ((Cal.num y mo d + 4) % 7), .int .i64 (Cal.num y mo d - Cal.num y 1 1 + 1)] 24)) = v2 at *
  have pbp0 := fun dr os => cell_regrown bp_1.a0 dr os
  have pbp1 := fun dr os => cell_regrown bp_1.a1 dr os
  have pbp2 := fun dr os => cell_regrown bp_1.a2 dr os
  have pbp3 := fun dr os => cell_regrown bp_1.a3 dr os
  have pbp4 := fun dr os => cell_regrown bp_1.a4 dr os
  have pbp5 := fun dr os => cell_regrown bp_1.a5 dr os
  have pbp6 := fun dr os => cell_regrown bp_1.a6 dr os
  have pbp7 := fun dr os => cell_regrown bp_1.a7 dr os
  refine wp_region_quiet_below (by kernel_rfl) (by kernel_rfl) ?_
  repeat (any_goals (first | go_big_quiet_step ((go_at_call 18; exact Calls.regrown_of (dayRB _ _ _))) | quiet_step ((go_at_call 18; exact Calls.regrown_of (dayRB _ _ _)))))
  refine wpQuiet_nil ?_
  intro _ hw'
  obtain ⟨⟨dq3, osq3⟩, hw''⟩ := hw'
  subst hw''
  clear pbp0 pbp1 pbp2 pbp3 pbp4 pbp5 pbp6 pbp7
  have L3 := L1.trans ((below_regrown v2 dq3 osq3).mono L1.size)
  have bp_3 := bp_1.below (below_regrown v2 dq3 osq3)
  clear bp_1
  clear L1
  generalize (Go.Sort.grow (redrawn v2 dq3) osq3) = v4 at *
  obtain ⟨bplt, bpc0, bpc1, bpc2, bpc3, bpc4, bpc5, bpc6, bpc7, bpfz⟩ := bp_3
  go_wp2_with fail
  have bp_3 : Blk8 _ _ _ _ _ _ _ _ _ _ := ⟨bplt, bpc0, bpc1, bpc2, bpc3, bpc4, bpc5, bpc6, bpc7, bpfz⟩
  clear bplt bpc0 bpc1 bpc2 bpc3 bpc4 bpc5 bpc6 bpc7 bpfz
  refine (HN _).mono ?_
  rintro e w5 ⟨rfl, hb⟩
  have L5 := L3.trans (hb.mono L3.size)
  have bp_5 := bp_3.below hb
  clear bp_3
  clear hb
  clear L3
  obtain ⟨bplt, bpc0, bpc1, bpc2, bpc3, bpc4, bpc5, bpc6, bpc7, bpfz⟩ := bp_5
  go_wp2_with fail
  have bp_5 : Blk8 _ _ _ _ _ _ _ _ _ _ := ⟨bplt, bpc0, bpc1, bpc2, bpc3, bpc4, bpc5, bpc6, bpc7, bpfz⟩
  clear bplt bpc0 bpc1 bpc2 bpc3 bpc4 bpc5 bpc6 bpc7 bpfz
  refine (HO _).mono ?_
  rintro e w6 ⟨rfl, hb⟩
  have L6 := L5.trans (hb.mono L5.size)
  have bp_6 := bp_5.below hb
  clear bp_5
  clear hb
  clear L5
  obtain ⟨bplt, bpc0, bpc1, bpc2, bpc3, bpc4, bpc5, bpc6, bpc7, bpfz⟩ := bp_6
  go_wp2_with fail
  have bp_6 : Blk8 _ _ _ _ _ _ _ _ _ _ := ⟨bplt, bpc0, bpc1, bpc2, bpc3, bpc4, bpc5, bpc6, bpc7, bpfz⟩
  clear bplt bpc0 bpc1 bpc2 bpc3 bpc4 bpc5 bpc6 bpc7 bpfz
  have L7 : Below w.heap.size w (w6.alloc (.cells #[.int .i64 c1, .int .i64 c2, .int .i64 c3, .int .i64 c4, .int .i64 c5, .int .i64 c6, .int .i64 ((Cal.num y mo d + 4) % 7), .int .i64 (Cal.num y mo d - Cal.num y 1 1 + 1)] 24)) := L6.alloc L6.size _
  have bp_7 := bp_6.alloc #[.int .i64 c1, .int .i64 c2, .int .i64 c3, .int .i64 c4, .int .i64 c5, .int .i64 c6, .int .i64 ((Cal.num y mo d + 4) % 7), .int .i64 (Cal.num y mo d - Cal.num y 1 1 + 1)] 24
  clear bp_6
  have bx_7 := Blk8.new w6 (.int .i64 c1) (.int .i64 c2) (.int .i64 c3) (.int .i64 c4) (.int .i64 c5) (.int .i64 c6) (.int .i64 ((Cal.num y mo d + 4) % 7)) (.int .i64 (Cal.num y mo d - Cal.num y 1 1 + 1)) 24
  clear L6
  obtain ⟨bplt, bpc0, bpc1, bpc2, bpc3, bpc4, bpc5, bpc6, bpc7, bpfz⟩ := bp_7
  obtain ⟨bxlt, bxc0, bxc1, bxc2, bxc3, bxc4, bxc5, bxc6, bxc7, bxfz⟩ := bx_7
  go_wp2_with fail
  have bp_7 : Blk8 _ _ _ _ _ _ _ _ _ _ := ⟨bplt, bpc0, bpc1, bpc2, bpc3, bpc4, bpc5, bpc6, bpc7, bpfz⟩
  clear bplt bpc0 bpc1 bpc2 bpc3 bpc4 bpc5 bpc6 bpc7 bpfz
  have bx_7 : Blk8 _ _ _ _ _ _ _ _ _ _ := ⟨bxlt, bxc0, bxc1, bxc2, bxc3, bxc4, bxc5, bxc6, bxc7, bxfz⟩
  clear bxlt bxc0 bxc1 bxc2 bxc3 bxc4 bxc5 bxc6 bxc7 bxfz
  go_ret
  exact ⟨rfl, L7⟩
set_option maxHeartbeats 1000000 in
theorem Right_w (y mo d h mi s wd yd : Int) (t0 : ¬ d < 1) (t1 : ¬ Cal.days y mo < d) (t2 : ¬ h < 0) (t3 : ¬ 23 < h) (t4 : ¬ mi < 0) (t5 : ¬ 59 < mi) (t6 : ¬ s < 0) (t7 : ¬ 59 < s) (hw : (wd == (Cal.num y mo d + 4) % 7) = false) (w : World) :
    Calls Try.prog 23 #[CV y mo d h mi s wd yd] w fun e w' => e = .returned (.bool false) ∧ Below w.heap.size w w' := by
  have e0 : decide (d < 1) = false := by simp; omega
  have e1 : decide (Cal.days y mo < d) = false := by simp; omega
  have e2 : decide (h < 0) = false := by simp; omega
  have e3 : decide (23 < h) = false := by simp; omega
  have e4 : decide (mi < 0) = false := by simp; omega
  have e5 : decide (59 < mi) = false := by simp; omega
  have e6 : decide (s < 0) = false := by simp; omega
  have e7 : decide (59 < s) = false := by simp; omega
  obtain ⟨k1, k2, k3, k4, k5, k6⟩ := days_in2 (y := y) (mo := mo) (d := d) (by omega) (by omega)
  have HN := refNum y mo d h mi s wd yd k1 k2 k3 k4 (by omega) (by omega)
  have nb := num_in3 (m := mo) (d := d) k1 k2 (by omega) (by omega)
  have HO := refOf (Cal.num y mo d) 0 (by omega) (by omega) (by omega) (by omega)
  have tn := Cal.told_num k6
  rw [show refOfV (Cal.num y mo d) 0 = .tuple #[civ (Cal.num y mo d) 0, .bool true] from if_pos (by rw [tn.1]; exact ⟨k1, k2⟩)] at HO
  obtain ⟨c1, c2, c3, c4, c5, c6, E1⟩ : ∃ c1 c2 c3 c4 c5 c6 : Int, civ (Cal.num y mo d) 0 = .agg #[.int .i64 c1, .int .i64 c2, .int .i64 c3, .int .i64 c4, .int .i64 c5, .int .i64 c6, .int .i64 ((Cal.num y mo d + 4) % 7), .int .i64 (Cal.num y mo d - Cal.num y 1 1 + 1)] := ⟨_, _, _, _, _, _, by unfold civ; rw [tn.1]⟩
  rw [E1] at HO
  clear E1 tn k6
  unfold CV
  go_enter Try.func23, Try.ntmps23
  have L0 : Below w.heap.size w w := Below.refl _ _
  go_wp2_with fail
  have L1 : Below w.heap.size w (w.alloc (.cells #[.int .i64 y, .int .i64 mo, .int .i64 d, .int .i64 h, .int .i64 mi, .int .i64 s, .int .i64 wd, .int .i64 yd] 24)) := L0.alloc L0.size _
  have bp_1 := Blk8.new w (.int .i64 y) (.int .i64 mo) (.int .i64 d) (.int .i64 h) (.int .i64 mi) (.int .i64 s) (.int .i64 wd) (.int .i64 yd) 24
  clear L0
  generalize (w.alloc (.cells #[.int .i64 y, .int .i64 mo, .int .i64 d, .int .i64 h, .int .i64 mi, .int .i64 s, .int .i64 wd, .int .i64 yd] 24)) = v2 at *
  have pbp0 := fun dr os => cell_regrown bp_1.a0 dr os
  have pbp1 := fun dr os => cell_regrown bp_1.a1 dr os
  have pbp2 := fun dr os => cell_regrown bp_1.a2 dr os
  have pbp3 := fun dr os => cell_regrown bp_1.a3 dr os
  have pbp4 := fun dr os => cell_regrown bp_1.a4 dr os
  have pbp5 := fun dr os => cell_regrown bp_1.a5 dr os
  have pbp6 := fun dr os => cell_regrown bp_1.a6 dr os
  have pbp7 := fun dr os => cell_regrown bp_1.a7 dr os
  refine wp_region_quiet_below (by kernel_rfl) (by kernel_rfl) ?_
  repeat (any_goals (first | go_big_quiet_step ((go_at_call 18; exact Calls.regrown_of (dayRB _ _ _))) | quiet_step ((go_at_call 18; exact Calls.regrown_of (dayRB _ _ _)))))
  refine wpQuiet_nil ?_
  intro _ hw'
  obtain ⟨⟨dq3, osq3⟩, hw''⟩ := hw'
  subst hw''
  clear pbp0 pbp1 pbp2 pbp3 pbp4 pbp5 pbp6 pbp7
  have L3 := L1.trans ((below_regrown v2 dq3 osq3).mono L1.size)
  have bp_3 := bp_1.below (below_regrown v2 dq3 osq3)
  clear bp_1
  clear L1
  generalize (Go.Sort.grow (redrawn v2 dq3) osq3) = v4 at *
  obtain ⟨bplt, bpc0, bpc1, bpc2, bpc3, bpc4, bpc5, bpc6, bpc7, bpfz⟩ := bp_3
  go_wp2_with fail
  have bp_3 : Blk8 _ _ _ _ _ _ _ _ _ _ := ⟨bplt, bpc0, bpc1, bpc2, bpc3, bpc4, bpc5, bpc6, bpc7, bpfz⟩
  clear bplt bpc0 bpc1 bpc2 bpc3 bpc4 bpc5 bpc6 bpc7 bpfz
  refine (HN _).mono ?_
  rintro e w5 ⟨rfl, hb⟩
  have L5 := L3.trans (hb.mono L3.size)
  have bp_5 := bp_3.below hb
  clear bp_3
  clear hb
  clear L3
  obtain ⟨bplt, bpc0, bpc1, bpc2, bpc3, bpc4, bpc5, bpc6, bpc7, bpfz⟩ := bp_5
  go_wp2_with fail
  have bp_5 : Blk8 _ _ _ _ _ _ _ _ _ _ := ⟨bplt, bpc0, bpc1, bpc2, bpc3, bpc4, bpc5, bpc6, bpc7, bpfz⟩
  clear bplt bpc0 bpc1 bpc2 bpc3 bpc4 bpc5 bpc6 bpc7 bpfz
  refine (HO _).mono ?_
  rintro e w6 ⟨rfl, hb⟩
  have L6 := L5.trans (hb.mono L5.size)
  have bp_6 := bp_5.below hb
  clear bp_5
  clear hb
  clear L5
  obtain ⟨bplt, bpc0, bpc1, bpc2, bpc3, bpc4, bpc5, bpc6, bpc7, bpfz⟩ := bp_6
  go_wp2_with fail
  have bp_6 : Blk8 _ _ _ _ _ _ _ _ _ _ := ⟨bplt, bpc0, bpc1, bpc2, bpc3, bpc4, bpc5, bpc6, bpc7, bpfz⟩
  clear bplt bpc0 bpc1 bpc2 bpc3 bpc4 bpc5 bpc6 bpc7 bpfz
  have L7 : Below w.heap.size w (w6.alloc (.cells #[.int .i64 c1, .int .i64 c2, .int .i64 c3, .int .i64 c4, .int .i64 c5, .int .i64 c6, .int .i64 ((Cal.num y mo d + 4) % 7), .int .i64 (Cal.num y mo d - Cal.num y 1 1 + 1)] 24)) := L6.alloc L6.size _
  have bp_7 := bp_6.alloc #[.int .i64 c1, .int .i64 c2, .int .i64 c3, .int .i64 c4, .int .i64 c5, .int .i64 c6, .int .i64 ((Cal.num y mo d + 4) % 7), .int .i64 (Cal.num y mo d - Cal.num y 1 1 + 1)] 24
  clear bp_6
  have bx_7 := Blk8.new w6 (.int .i64 c1) (.int .i64 c2) (.int .i64 c3) (.int .i64 c4) (.int .i64 c5) (.int .i64 c6) (.int .i64 ((Cal.num y mo d + 4) % 7)) (.int .i64 (Cal.num y mo d - Cal.num y 1 1 + 1)) 24
  clear L6
  obtain ⟨bplt, bpc0, bpc1, bpc2, bpc3, bpc4, bpc5, bpc6, bpc7, bpfz⟩ := bp_7
  obtain ⟨bxlt, bxc0, bxc1, bxc2, bxc3, bxc4, bxc5, bxc6, bxc7, bxfz⟩ := bx_7
  go_wp2_with fail
  have bp_7 : Blk8 _ _ _ _ _ _ _ _ _ _ := ⟨bplt, bpc0, bpc1, bpc2, bpc3, bpc4, bpc5, bpc6, bpc7, bpfz⟩
  clear bplt bpc0 bpc1 bpc2 bpc3 bpc4 bpc5 bpc6 bpc7 bpfz
  have bx_7 : Blk8 _ _ _ _ _ _ _ _ _ _ := ⟨bxlt, bxc0, bxc1, bxc2, bxc3, bxc4, bxc5, bxc6, bxc7, bxfz⟩
  clear bxlt bxc0 bxc1 bxc2 bxc3 bxc4 bxc5 bxc6 bxc7 bxfz
  go_ret
  exact ⟨rfl, L7⟩
set_option maxHeartbeats 1000000 in
theorem Right_y (y mo d h mi s yd : Int) (t0 : ¬ d < 1) (t1 : ¬ Cal.days y mo < d) (t2 : ¬ h < 0) (t3 : ¬ 23 < h) (t4 : ¬ mi < 0) (t5 : ¬ 59 < mi) (t6 : ¬ s < 0) (t7 : ¬ 59 < s) (hv : (yd == Cal.num y mo d - Cal.num y 1 1 + 1) = false) (w : World) :
    Calls Try.prog 23 #[CV y mo d h mi s ((Cal.num y mo d + 4) % 7) yd] w fun e w' => e = .returned (.bool false) ∧ Below w.heap.size w w' := by
  have e0 : decide (d < 1) = false := by simp; omega
  have e1 : decide (Cal.days y mo < d) = false := by simp; omega
  have e2 : decide (h < 0) = false := by simp; omega
  have e3 : decide (23 < h) = false := by simp; omega
  have e4 : decide (mi < 0) = false := by simp; omega
  have e5 : decide (59 < mi) = false := by simp; omega
  have e6 : decide (s < 0) = false := by simp; omega
  have e7 : decide (59 < s) = false := by simp; omega
  obtain ⟨k1, k2, k3, k4, k5, k6⟩ := days_in2 (y := y) (mo := mo) (d := d) (by omega) (by omega)
  have HN := refNum y mo d h mi s ((Cal.num y mo d + 4) % 7) yd k1 k2 k3 k4 (by omega) (by omega)
  have nb := num_in3 (m := mo) (d := d) k1 k2 (by omega) (by omega)
  have HO := refOf (Cal.num y mo d) 0 (by omega) (by omega) (by omega) (by omega)
  have tn := Cal.told_num k6
  rw [show refOfV (Cal.num y mo d) 0 = .tuple #[civ (Cal.num y mo d) 0, .bool true] from if_pos (by rw [tn.1]; exact ⟨k1, k2⟩)] at HO
  obtain ⟨c1, c2, c3, c4, c5, c6, E1⟩ : ∃ c1 c2 c3 c4 c5 c6 : Int, civ (Cal.num y mo d) 0 = .agg #[.int .i64 c1, .int .i64 c2, .int .i64 c3, .int .i64 c4, .int .i64 c5, .int .i64 c6, .int .i64 ((Cal.num y mo d + 4) % 7), .int .i64 (Cal.num y mo d - Cal.num y 1 1 + 1)] := ⟨_, _, _, _, _, _, by unfold civ; rw [tn.1]⟩
  rw [E1] at HO
  clear E1 tn k6
  unfold CV
  go_enter Try.func23, Try.ntmps23
  have L0 : Below w.heap.size w w := Below.refl _ _
  go_wp2_with fail
  have L1 : Below w.heap.size w (w.alloc (.cells #[.int .i64 y, .int .i64 mo, .int .i64 d, .int .i64 h, .int .i64 mi, .int .i64 s, .int .i64 ((Cal.num y mo d + 4) % 7), .int .i64 yd] 24)) := L0.alloc L0.size _
  have bp_1 := Blk8.new w (.int .i64 y) (.int .i64 mo) (.int .i64 d) (.int .i64 h) (.int .i64 mi) (.int .i64 s) (.int .i64 ((Cal.num y mo d + 4) % 7)) (.int .i64 yd) 24
  clear L0
  generalize (w.alloc (.cells #[.int .i64 y, .int .i64 mo, .int .i64 d, .int .i64 h, .int .i64 mi, .int .i64 s, .int .i64 ((Cal.num y mo d + 4) % 7), .int .i64 yd] 24)) = v2 at *
  have pbp0 := fun dr os => cell_regrown bp_1.a0 dr os
  have pbp1 := fun dr os => cell_regrown bp_1.a1 dr os
  have pbp2 := fun dr os => cell_regrown bp_1.a2 dr os
  have pbp3 := fun dr os => cell_regrown bp_1.a3 dr os
  have pbp4 := fun dr os => cell_regrown bp_1.a4 dr os
  have pbp5 := fun dr os => cell_regrown bp_1.a5 dr os
  have pbp6 := fun dr os => cell_regrown bp_1.a6 dr os
  have pbp7 := fun dr os => cell_regrown bp_1.a7 dr os
  refine wp_region_quiet_below (by kernel_rfl) (by kernel_rfl) ?_
  repeat (any_goals (first | go_big_quiet_step ((go_at_call 18; exact Calls.regrown_of (dayRB _ _ _))) | quiet_step ((go_at_call 18; exact Calls.regrown_of (dayRB _ _ _)))))
  refine wpQuiet_nil ?_
  intro _ hw'
  obtain ⟨⟨dq3, osq3⟩, hw''⟩ := hw'
  subst hw''
  clear pbp0 pbp1 pbp2 pbp3 pbp4 pbp5 pbp6 pbp7
  have L3 := L1.trans ((below_regrown v2 dq3 osq3).mono L1.size)
  have bp_3 := bp_1.below (below_regrown v2 dq3 osq3)
  clear bp_1
  clear L1
  generalize (Go.Sort.grow (redrawn v2 dq3) osq3) = v4 at *
  obtain ⟨bplt, bpc0, bpc1, bpc2, bpc3, bpc4, bpc5, bpc6, bpc7, bpfz⟩ := bp_3
  go_wp2_with fail
  have bp_3 : Blk8 _ _ _ _ _ _ _ _ _ _ := ⟨bplt, bpc0, bpc1, bpc2, bpc3, bpc4, bpc5, bpc6, bpc7, bpfz⟩
  clear bplt bpc0 bpc1 bpc2 bpc3 bpc4 bpc5 bpc6 bpc7 bpfz
  refine (HN _).mono ?_
  rintro e w5 ⟨rfl, hb⟩
  have L5 := L3.trans (hb.mono L3.size)
  have bp_5 := bp_3.below hb
  clear bp_3
  clear hb
  clear L3
  obtain ⟨bplt, bpc0, bpc1, bpc2, bpc3, bpc4, bpc5, bpc6, bpc7, bpfz⟩ := bp_5
  go_wp2_with fail
  have bp_5 : Blk8 _ _ _ _ _ _ _ _ _ _ := ⟨bplt, bpc0, bpc1, bpc2, bpc3, bpc4, bpc5, bpc6, bpc7, bpfz⟩
  clear bplt bpc0 bpc1 bpc2 bpc3 bpc4 bpc5 bpc6 bpc7 bpfz
  refine (HO _).mono ?_
  rintro e w6 ⟨rfl, hb⟩
  have L6 := L5.trans (hb.mono L5.size)
  have bp_6 := bp_5.below hb
  clear bp_5
  clear hb
  clear L5
  obtain ⟨bplt, bpc0, bpc1, bpc2, bpc3, bpc4, bpc5, bpc6, bpc7, bpfz⟩ := bp_6
  go_wp2_with fail
  have bp_6 : Blk8 _ _ _ _ _ _ _ _ _ _ := ⟨bplt, bpc0, bpc1, bpc2, bpc3, bpc4, bpc5, bpc6, bpc7, bpfz⟩
  clear bplt bpc0 bpc1 bpc2 bpc3 bpc4 bpc5 bpc6 bpc7 bpfz
  have L7 : Below w.heap.size w (w6.alloc (.cells #[.int .i64 c1, .int .i64 c2, .int .i64 c3, .int .i64 c4, .int .i64 c5, .int .i64 c6, .int .i64 ((Cal.num y mo d + 4) % 7), .int .i64 (Cal.num y mo d - Cal.num y 1 1 + 1)] 24)) := L6.alloc L6.size _
  have bp_7 := bp_6.alloc #[.int .i64 c1, .int .i64 c2, .int .i64 c3, .int .i64 c4, .int .i64 c5, .int .i64 c6, .int .i64 ((Cal.num y mo d + 4) % 7), .int .i64 (Cal.num y mo d - Cal.num y 1 1 + 1)] 24
  clear bp_6
  have bx_7 := Blk8.new w6 (.int .i64 c1) (.int .i64 c2) (.int .i64 c3) (.int .i64 c4) (.int .i64 c5) (.int .i64 c6) (.int .i64 ((Cal.num y mo d + 4) % 7)) (.int .i64 (Cal.num y mo d - Cal.num y 1 1 + 1)) 24
  clear L6
  obtain ⟨bplt, bpc0, bpc1, bpc2, bpc3, bpc4, bpc5, bpc6, bpc7, bpfz⟩ := bp_7
  obtain ⟨bxlt, bxc0, bxc1, bxc2, bxc3, bxc4, bxc5, bxc6, bxc7, bxfz⟩ := bx_7
  go_wp2_with fail
  have bp_7 : Blk8 _ _ _ _ _ _ _ _ _ _ := ⟨bplt, bpc0, bpc1, bpc2, bpc3, bpc4, bpc5, bpc6, bpc7, bpfz⟩
  clear bplt bpc0 bpc1 bpc2 bpc3 bpc4 bpc5 bpc6 bpc7 bpfz
  have bx_7 : Blk8 _ _ _ _ _ _ _ _ _ _ := ⟨bxlt, bxc0, bxc1, bxc2, bxc3, bxc4, bxc5, bxc6, bxc7, bxfz⟩
  clear bxlt bxc0 bxc1 bxc2 bxc3 bxc4 bxc5 bxc6 bxc7 bxfz
  go_ret
  exact ⟨rfl, L7⟩
theorem RightYes (y mo d h mi s wd yd : Int) (hr : Rt y mo d h mi s wd yd) (w : World) :
    Calls Try.prog 23 #[CV y mo d h mi s wd yd] w fun e w' => e = .returned (.bool true) ∧ Below w.heap.size w w' := by
  obtain ⟨h1, h2, h3, h4, h5, h6, h7, h8, rfl, rfl⟩ := hr
  exact Right_yes y mo d h mi s (by omega) (by omega) (by omega) (by omega) (by omega) (by omega) (by omega) (by omega) w
theorem RightNo (y mo d h mi s wd yd : Int) (hr : ¬ Rt y mo d h mi s wd yd) (w : World) :
    Calls Try.prog 23 #[CV y mo d h mi s wd yd] w fun e w' => e = .returned (.bool false) ∧ Below w.heap.size w w' := by
  by_cases t0 : d < 1
  · exact Right_n0 y mo d h mi s wd yd t0 w
  by_cases t1 : Cal.days y mo < d
  · exact Right_n1 y mo d h mi s wd yd t0 t1 w
  by_cases t2 : h < 0
  · exact Right_n2 y mo d h mi s wd yd t0 t1 t2 w
  by_cases t3 : 23 < h
  · exact Right_n3 y mo d h mi s wd yd t0 t1 t2 t3 w
  by_cases t4 : mi < 0
  · exact Right_n4 y mo d h mi s wd yd t0 t1 t2 t3 t4 w
  by_cases t5 : 59 < mi
  · exact Right_n5 y mo d h mi s wd yd t0 t1 t2 t3 t4 t5 w
  by_cases t6 : s < 0
  · exact Right_n6 y mo d h mi s wd yd t0 t1 t2 t3 t4 t5 t6 w
  by_cases t7 : 59 < s
  · exact Right_n7 y mo d h mi s wd yd t0 t1 t2 t3 t4 t5 t6 t7 w
  by_cases h4 : wd = (Cal.num y mo d + 4) % 7
  · have h5 : ¬ yd = Cal.num y mo d - Cal.num y 1 1 + 1 := fun h5 => hr ⟨by omega, by omega, by omega, by omega, by omega, by omega, by omega, by omega, h4, h5⟩
    subst h4
    exact Right_y y mo d h mi s yd t0 t1 t2 t3 t4 t5 t6 t7 (beq_eq_false_iff_ne.2 h5) w
  · exact Right_w y mo d h mi s wd yd t0 t1 t2 t3 t4 t5 t6 t7 (beq_eq_false_iff_ne.2 h4) w
theorem Seconds_bad (y mo d h mi s wd yd o : Int) (hr : ¬ Rt y mo d h mi s wd yd) (w : World) :
    Calls Try.prog 22 #[CV y mo d h mi s wd yd, .int .i64 o] w fun e w' => e = .returned (.tuple #[.int .i64 0, .int .i64 2]) ∧ Below w.heap.size w w' := by
  have HK := Check_no y mo d h mi s wd yd hr
  clear hr
  unfold CV at *
  go_enter Try.func22, Try.ntmps22
  have L0 : Below w.heap.size w w := Below.refl _ _
  go_wp2_with fail
  have L1 : Below w.heap.size w (w.alloc (.cells #[.int .i64 y, .int .i64 mo, .int .i64 d, .int .i64 h, .int .i64 mi, .int .i64 s, .int .i64 wd, .int .i64 yd] 24)) := L0.alloc L0.size _
  have bp_1 := Blk8.new w (.int .i64 y) (.int .i64 mo) (.int .i64 d) (.int .i64 h) (.int .i64 mi) (.int .i64 s) (.int .i64 wd) (.int .i64 yd) 24
  clear L0
  refine (HK _).mono ?_
  rintro e w2 ⟨rfl, hb⟩
  have L2 := L1.trans (hb.mono L1.size)
  have bp_2 := bp_1.below hb
  clear bp_1
  clear hb
  clear L1
  obtain ⟨bplt, bpc0, bpc1, bpc2, bpc3, bpc4, bpc5, bpc6, bpc7, bpfz⟩ := bp_2
  go_wp2_with fail
  have bp_2 : Blk8 _ _ _ _ _ _ _ _ _ _ := ⟨bplt, bpc0, bpc1, bpc2, bpc3, bpc4, bpc5, bpc6, bpc7, bpfz⟩
  clear bplt bpc0 bpc1 bpc2 bpc3 bpc4 bpc5 bpc6 bpc7 bpfz
  go_ret2
  exact ⟨rfl, L2⟩
theorem Seconds_off (y mo d h mi s wd yd o : Int) (hr : Rt y mo d h mi s wd yd) (ho : ¬ (-86399 ≤ o ∧ o ≤ 86399)) (w : World) :
    Calls Try.prog 22 #[CV y mo d h mi s wd yd, .int .i64 o] w fun e w' => e = .returned (.tuple #[.int .i64 0, .int .i64 2]) ∧ Below w.heap.size w w' := by
  have HK := Check_yes y mo d h mi s wd yd hr
  clear hr
  have HO := Lib.hid ho
  clear ho
  unfold CV at *
  go_enter Try.func22, Try.ntmps22
  have L0 : Below w.heap.size w w := Below.refl _ _
  go_wp2_with fail
  have L1 : Below w.heap.size w (w.alloc (.cells #[.int .i64 y, .int .i64 mo, .int .i64 d, .int .i64 h, .int .i64 mi, .int .i64 s, .int .i64 wd, .int .i64 yd] 24)) := L0.alloc L0.size _
  have bp_1 := Blk8.new w (.int .i64 y) (.int .i64 mo) (.int .i64 d) (.int .i64 h) (.int .i64 mi) (.int .i64 s) (.int .i64 wd) (.int .i64 yd) 24
  clear L0
  refine (HK _).mono ?_
  rintro e w2 ⟨rfl, hb⟩
  have L2 := L1.trans (hb.mono L1.size)
  have bp_2 := bp_1.below hb
  clear bp_1
  clear hb
  clear L1
  obtain ⟨bplt, bpc0, bpc1, bpc2, bpc3, bpc4, bpc5, bpc6, bpc7, bpfz⟩ := bp_2
  go_wp2_with fail
  have bp_2 : Blk8 _ _ _ _ _ _ _ _ _ _ := ⟨bplt, bpc0, bpc1, bpc2, bpc3, bpc4, bpc5, bpc6, bpc7, bpfz⟩
  clear bplt bpc0 bpc1 bpc2 bpc3 bpc4 bpc5 bpc6 bpc7 bpfz
  refine (may_no o HO.out _).mono ?_
  rintro e w' ⟨rfl, rfl⟩
  obtain ⟨bplt, bpc0, bpc1, bpc2, bpc3, bpc4, bpc5, bpc6, bpc7, bpfz⟩ := bp_2
  go_wp2_with fail
  have bp_2 : Blk8 _ _ _ _ _ _ _ _ _ _ := ⟨bplt, bpc0, bpc1, bpc2, bpc3, bpc4, bpc5, bpc6, bpc7, bpfz⟩
  clear bplt bpc0 bpc1 bpc2 bpc3 bpc4 bpc5 bpc6 bpc7 bpfz
  go_ret2
  exact ⟨rfl, L2⟩
set_option maxHeartbeats 1000000 in
theorem Seconds_ok (y mo d h mi s wd yd o : Int) (hr : Rt y mo d h mi s wd yd) (ho1 : -86399 ≤ o) (ho2 : o ≤ 86399) (w : World) :
    Calls Try.prog 22 #[CV y mo d h mi s wd yd, .int .i64 o] w fun e w' => e = .returned (.tuple #[.int .i64 (Cal.num y mo d * 86400 + (h * 3600 + mi * 60 + s) - o), .int .i64 0]) ∧ Below w.heap.size w w' := by
  have HK := Check_yes y mo d h mi s wd yd hr
  obtain ⟨h1, h2, h3, h4, h5, h6, h7, h8, g9, g10⟩ := hr
  clear g9 g10
  obtain ⟨k1, k2, k3, k4, k5, _⟩ := days_in h1 h2
  obtain ⟨n1, n2⟩ := num_in2 (m := mo) k1 k2 h1 k5
  have HS := second_any y mo d h mi s wd yd h3 h4 h5 h6 h7 h8
  have HN := numberB y mo d (by omega) (by omega) k3 k4 (by omega) (by omega)
  unfold CV at *
  go_enter Try.func22, Try.ntmps22
  have L0 : Below w.heap.size w w := Below.refl _ _
  go_wp2_with fail
  have L1 : Below w.heap.size w (w.alloc (.cells #[.int .i64 y, .int .i64 mo, .int .i64 d, .int .i64 h, .int .i64 mi, .int .i64 s, .int .i64 wd, .int .i64 yd] 24)) := L0.alloc L0.size _
  have bp_1 := Blk8.new w (.int .i64 y) (.int .i64 mo) (.int .i64 d) (.int .i64 h) (.int .i64 mi) (.int .i64 s) (.int .i64 wd) (.int .i64 yd) 24
  clear L0
  refine (HK _).mono ?_
  rintro e w2 ⟨rfl, hb⟩
  have L2 := L1.trans (hb.mono L1.size)
  have bp_2 := bp_1.below hb
  clear bp_1
  clear hb
  clear L1
  obtain ⟨bplt, bpc0, bpc1, bpc2, bpc3, bpc4, bpc5, bpc6, bpc7, bpfz⟩ := bp_2
  go_wp2_with fail
  have bp_2 : Blk8 _ _ _ _ _ _ _ _ _ _ := ⟨bplt, bpc0, bpc1, bpc2, bpc3, bpc4, bpc5, bpc6, bpc7, bpfz⟩
  clear bplt bpc0 bpc1 bpc2 bpc3 bpc4 bpc5 bpc6 bpc7 bpfz
  refine (may_yes o ho1 ho2 _).mono ?_
  rintro e w' ⟨rfl, rfl⟩
  obtain ⟨bplt, bpc0, bpc1, bpc2, bpc3, bpc4, bpc5, bpc6, bpc7, bpfz⟩ := bp_2
  go_wp2_with fail
  have bp_2 : Blk8 _ _ _ _ _ _ _ _ _ _ := ⟨bplt, bpc0, bpc1, bpc2, bpc3, bpc4, bpc5, bpc6, bpc7, bpfz⟩
  clear bplt bpc0 bpc1 bpc2 bpc3 bpc4 bpc5 bpc6 bpc7 bpfz
  generalize w2 = v4 at *
  have pbp0 := fun dr os => cell_regrown bp_2.a0 dr os
  have pbp1 := fun dr os => cell_regrown bp_2.a1 dr os
  have pbp2 := fun dr os => cell_regrown bp_2.a2 dr os
  have pbp3 := fun dr os => cell_regrown bp_2.a3 dr os
  have pbp4 := fun dr os => cell_regrown bp_2.a4 dr os
  have pbp5 := fun dr os => cell_regrown bp_2.a5 dr os
  have pbp6 := fun dr os => cell_regrown bp_2.a6 dr os
  have pbp7 := fun dr os => cell_regrown bp_2.a7 dr os
  refine wp_region_quiet_below (by kernel_rfl) (by kernel_rfl) ?_
  repeat (any_goals (first | go_big_quiet_step ((first | (go_at_call 36; exact Calls.regrown_of (HN _)) | (go_at_call 41; exact Calls.regrown_of (HS _)))) | quiet_step ((first | (go_at_call 36; exact Calls.regrown_of (HN _)) | (go_at_call 41; exact Calls.regrown_of (HS _))))))
  refine wpQuiet_nil ?_
  intro _ hw'
  obtain ⟨⟨dq5, osq5⟩, hw''⟩ := hw'
  subst hw''
  clear pbp0 pbp1 pbp2 pbp3 pbp4 pbp5 pbp6 pbp7
  have L5 := L2.trans ((below_regrown v4 dq5 osq5).mono L2.size)
  have bp_5 := bp_2.below (below_regrown v4 dq5 osq5)
  clear bp_2
  clear L2
  generalize (Go.Sort.grow (redrawn v4 dq5) osq5) = v6 at *
  go_wp2_with fail
  go_ret2
  exact ⟨rfl, L5⟩
end Go.Proofs.Ytafoodfbjebdcaa
