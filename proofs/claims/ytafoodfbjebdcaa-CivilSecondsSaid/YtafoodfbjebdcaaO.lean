/-
  CivilSeconds' walk: the law returns true for every civil and offset. Conditions: each number fits its kind.
-/
import Derived.Test.YtafoodfbjebdcaaM
import Derived.WalkKit
import Derived.ProofKit
import Derived.OpenShut
import Derived.Deep.QuietTactic
import Derived.BigQuiet
import Derived.Lib.Hide
import Derived.WalkLawsBesides
import Derived.Lib.QuietBelow
namespace Go.Proofs.Ytafoodfbjebdcaa
open Go.ChangeShapes Go.WideShapes Go.ChangeAt Go.RowKit
set_option maxHeartbeats 1000000 in
theorem CivilSeconds_bad (y mo d h mi s wd yd a1 : Int) (hr : ¬ Rt y mo d h mi s wd yd) (w : World) :
    Calls Try.prog 5 #[CV y mo d h mi s wd yd, .int .i64 a1] w fun e w' => e = .returned (.bool true) ∧ Below w.heap.size w w' := by
  have HS := Seconds_bad y mo d h mi s wd yd a1 hr
  have HR := RightNo y mo d h mi s wd yd hr
  have HC := Check_no y mo d h mi s wd yd hr
  clear hr
  unfold CV at *
  go_enter Try.func5, Try.ntmps5
  have L0 : Below w.heap.size w w := Below.refl _ _
  go_wp2_with fail
  have L1 : Below w.heap.size w (w.alloc (.cells #[.int .i64 y, .int .i64 mo, .int .i64 d, .int .i64 h, .int .i64 mi, .int .i64 s, .int .i64 wd, .int .i64 yd] 24)) := L0.alloc L0.size _
  have bp_1 := Blk8.new w (.int .i64 y) (.int .i64 mo) (.int .i64 d) (.int .i64 h) (.int .i64 mi) (.int .i64 s) (.int .i64 wd) (.int .i64 yd) 24
  clear L0
  refine (wakes_any _).mono ?_
  rintro e w2 ⟨rfl, hb⟩
  have L2 := L1.trans (hb.mono L1.size)
  have bp_2 := bp_1.below hb
  clear bp_1
  clear hb
  clear L1
  obtain ⟨bplt, bpc0, bpc1, bpc2, bpc3, bpc4, bpc5, bpc6, bpc7, bpfz⟩ := bp_2
  go_wp2_with fail
  have bp_2 : Blk8 _ _ _ _ _ _ _ _ _ _ := ⟨bplt, bpc0, bpc1, bpc2, bpc3, bpc4, bpc5, bpc6, bpc7, bpfz⟩
  clear bplt bpc0 bpc1 bpc2 bpc3 bpc4 bpc5 bpc6 bpc7 bpfz
  refine (HS _).mono ?_
  rintro e w3 ⟨rfl, hb⟩
  have L3 := L2.trans (hb.mono L2.size)
  have bp_3 := bp_2.below hb
  clear bp_2
  clear hb
  clear L2
  obtain ⟨bplt, bpc0, bpc1, bpc2, bpc3, bpc4, bpc5, bpc6, bpc7, bpfz⟩ := bp_3
  go_wp2_with fail
  have bp_3 : Blk8 _ _ _ _ _ _ _ _ _ _ := ⟨bplt, bpc0, bpc1, bpc2, bpc3, bpc4, bpc5, bpc6, bpc7, bpfz⟩
  clear bplt bpc0 bpc1 bpc2 bpc3 bpc4 bpc5 bpc6 bpc7 bpfz
  refine (HR _).mono ?_
  rintro e w4 ⟨rfl, hb⟩
  have L4 := L3.trans (hb.mono L3.size)
  have bp_4 := bp_3.below hb
  clear bp_3
  clear hb
  clear L3
  obtain ⟨bplt, bpc0, bpc1, bpc2, bpc3, bpc4, bpc5, bpc6, bpc7, bpfz⟩ := bp_4
  go_wp2_with fail
  have bp_4 : Blk8 _ _ _ _ _ _ _ _ _ _ := ⟨bplt, bpc0, bpc1, bpc2, bpc3, bpc4, bpc5, bpc6, bpc7, bpfz⟩
  clear bplt bpc0 bpc1 bpc2 bpc3 bpc4 bpc5 bpc6 bpc7 bpfz
  refine (HC _).mono ?_
  rintro e w5 ⟨rfl, hb⟩
  have L5 := L4.trans (hb.mono L4.size)
  have bp_5 := bp_4.below hb
  clear bp_4
  clear hb
  clear L4
  obtain ⟨bplt, bpc0, bpc1, bpc2, bpc3, bpc4, bpc5, bpc6, bpc7, bpfz⟩ := bp_5
  go_wp2_with fail
  have bp_5 : Blk8 _ _ _ _ _ _ _ _ _ _ := ⟨bplt, bpc0, bpc1, bpc2, bpc3, bpc4, bpc5, bpc6, bpc7, bpfz⟩
  clear bplt bpc0 bpc1 bpc2 bpc3 bpc4 bpc5 bpc6 bpc7 bpfz
  refine (HC _).mono ?_
  rintro e w6 ⟨rfl, hb⟩
  have L6 := L5.trans (hb.mono L5.size)
  have bp_6 := bp_5.below hb
  clear bp_5
  clear hb
  clear L5
  obtain ⟨bplt, bpc0, bpc1, bpc2, bpc3, bpc4, bpc5, bpc6, bpc7, bpfz⟩ := bp_6
  go_wp2_with fail
  have bp_6 : Blk8 _ _ _ _ _ _ _ _ _ _ := ⟨bplt, bpc0, bpc1, bpc2, bpc3, bpc4, bpc5, bpc6, bpc7, bpfz⟩
  clear bplt bpc0 bpc1 bpc2 bpc3 bpc4 bpc5 bpc6 bpc7 bpfz
  go_ret
  exact ⟨rfl, L6⟩
set_option maxHeartbeats 1000000 in
theorem CivilSeconds_off1 (y mo d h mi s wd yd a1 : Int) (hr : Rt y mo d h mi s wd yd) (ho : a1 < -86399) (w : World) :
    Calls Try.prog 5 #[CV y mo d h mi s wd yd, .int .i64 a1] w fun e w' => e = .returned (.bool true) ∧ Below w.heap.size w w' := by
  have HS := Seconds_off y mo d h mi s wd yd a1 hr (by omega)
  have HR := RightYes y mo d h mi s wd yd hr
  have HC := Check_yes y mo d h mi s wd yd hr
  clear hr
  unfold CV at *
  go_enter Try.func5, Try.ntmps5
  have L0 : Below w.heap.size w w := Below.refl _ _
  go_wp2_with fail
  have L1 : Below w.heap.size w (w.alloc (.cells #[.int .i64 y, .int .i64 mo, .int .i64 d, .int .i64 h, .int .i64 mi, .int .i64 s, .int .i64 wd, .int .i64 yd] 24)) := L0.alloc L0.size _
  have bp_1 := Blk8.new w (.int .i64 y) (.int .i64 mo) (.int .i64 d) (.int .i64 h) (.int .i64 mi) (.int .i64 s) (.int .i64 wd) (.int .i64 yd) 24
  clear L0
  refine (wakes_any _).mono ?_
  rintro e w2 ⟨rfl, hb⟩
  have L2 := L1.trans (hb.mono L1.size)
  have bp_2 := bp_1.below hb
  clear bp_1
  clear hb
  clear L1
  obtain ⟨bplt, bpc0, bpc1, bpc2, bpc3, bpc4, bpc5, bpc6, bpc7, bpfz⟩ := bp_2
  go_wp2_with fail
  have bp_2 : Blk8 _ _ _ _ _ _ _ _ _ _ := ⟨bplt, bpc0, bpc1, bpc2, bpc3, bpc4, bpc5, bpc6, bpc7, bpfz⟩
  clear bplt bpc0 bpc1 bpc2 bpc3 bpc4 bpc5 bpc6 bpc7 bpfz
  refine (HS _).mono ?_
  rintro e w3 ⟨rfl, hb⟩
  have L3 := L2.trans (hb.mono L2.size)
  have bp_3 := bp_2.below hb
  clear bp_2
  clear hb
  clear L2
  obtain ⟨bplt, bpc0, bpc1, bpc2, bpc3, bpc4, bpc5, bpc6, bpc7, bpfz⟩ := bp_3
  go_wp2_with fail
  have bp_3 : Blk8 _ _ _ _ _ _ _ _ _ _ := ⟨bplt, bpc0, bpc1, bpc2, bpc3, bpc4, bpc5, bpc6, bpc7, bpfz⟩
  clear bplt bpc0 bpc1 bpc2 bpc3 bpc4 bpc5 bpc6 bpc7 bpfz
  refine (HR _).mono ?_
  rintro e w4 ⟨rfl, hb⟩
  have L4 := L3.trans (hb.mono L3.size)
  have bp_4 := bp_3.below hb
  clear bp_3
  clear hb
  clear L3
  obtain ⟨bplt, bpc0, bpc1, bpc2, bpc3, bpc4, bpc5, bpc6, bpc7, bpfz⟩ := bp_4
  go_wp2_with fail
  have bp_4 : Blk8 _ _ _ _ _ _ _ _ _ _ := ⟨bplt, bpc0, bpc1, bpc2, bpc3, bpc4, bpc5, bpc6, bpc7, bpfz⟩
  clear bplt bpc0 bpc1 bpc2 bpc3 bpc4 bpc5 bpc6 bpc7 bpfz
  refine (HC _).mono ?_
  rintro e w5 ⟨rfl, hb⟩
  have L5 := L4.trans (hb.mono L4.size)
  have bp_5 := bp_4.below hb
  clear bp_4
  clear hb
  clear L4
  obtain ⟨bplt, bpc0, bpc1, bpc2, bpc3, bpc4, bpc5, bpc6, bpc7, bpfz⟩ := bp_5
  go_wp2_with fail
  have bp_5 : Blk8 _ _ _ _ _ _ _ _ _ _ := ⟨bplt, bpc0, bpc1, bpc2, bpc3, bpc4, bpc5, bpc6, bpc7, bpfz⟩
  clear bplt bpc0 bpc1 bpc2 bpc3 bpc4 bpc5 bpc6 bpc7 bpfz
  go_ret
  exact ⟨rfl, L5⟩
set_option maxHeartbeats 1000000 in
theorem CivilSeconds_off2 (y mo d h mi s wd yd a1 : Int) (hr : Rt y mo d h mi s wd yd) (ho : 86399 < a1) (w : World) :
    Calls Try.prog 5 #[CV y mo d h mi s wd yd, .int .i64 a1] w fun e w' => e = .returned (.bool true) ∧ Below w.heap.size w w' := by
  have HS := Seconds_off y mo d h mi s wd yd a1 hr (by omega)
  have HR := RightYes y mo d h mi s wd yd hr
  have HC := Check_yes y mo d h mi s wd yd hr
  clear hr
  unfold CV at *
  go_enter Try.func5, Try.ntmps5
  have L0 : Below w.heap.size w w := Below.refl _ _
  go_wp2_with fail
  have L1 : Below w.heap.size w (w.alloc (.cells #[.int .i64 y, .int .i64 mo, .int .i64 d, .int .i64 h, .int .i64 mi, .int .i64 s, .int .i64 wd, .int .i64 yd] 24)) := L0.alloc L0.size _
  have bp_1 := Blk8.new w (.int .i64 y) (.int .i64 mo) (.int .i64 d) (.int .i64 h) (.int .i64 mi) (.int .i64 s) (.int .i64 wd) (.int .i64 yd) 24
  clear L0
  refine (wakes_any _).mono ?_
  rintro e w2 ⟨rfl, hb⟩
  have L2 := L1.trans (hb.mono L1.size)
  have bp_2 := bp_1.below hb
  clear bp_1
  clear hb
  clear L1
  obtain ⟨bplt, bpc0, bpc1, bpc2, bpc3, bpc4, bpc5, bpc6, bpc7, bpfz⟩ := bp_2
  go_wp2_with fail
  have bp_2 : Blk8 _ _ _ _ _ _ _ _ _ _ := ⟨bplt, bpc0, bpc1, bpc2, bpc3, bpc4, bpc5, bpc6, bpc7, bpfz⟩
  clear bplt bpc0 bpc1 bpc2 bpc3 bpc4 bpc5 bpc6 bpc7 bpfz
  refine (HS _).mono ?_
  rintro e w3 ⟨rfl, hb⟩
  have L3 := L2.trans (hb.mono L2.size)
  have bp_3 := bp_2.below hb
  clear bp_2
  clear hb
  clear L2
  obtain ⟨bplt, bpc0, bpc1, bpc2, bpc3, bpc4, bpc5, bpc6, bpc7, bpfz⟩ := bp_3
  go_wp2_with fail
  have bp_3 : Blk8 _ _ _ _ _ _ _ _ _ _ := ⟨bplt, bpc0, bpc1, bpc2, bpc3, bpc4, bpc5, bpc6, bpc7, bpfz⟩
  clear bplt bpc0 bpc1 bpc2 bpc3 bpc4 bpc5 bpc6 bpc7 bpfz
  refine (HR _).mono ?_
  rintro e w4 ⟨rfl, hb⟩
  have L4 := L3.trans (hb.mono L3.size)
  have bp_4 := bp_3.below hb
  clear bp_3
  clear hb
  clear L3
  obtain ⟨bplt, bpc0, bpc1, bpc2, bpc3, bpc4, bpc5, bpc6, bpc7, bpfz⟩ := bp_4
  go_wp2_with fail
  have bp_4 : Blk8 _ _ _ _ _ _ _ _ _ _ := ⟨bplt, bpc0, bpc1, bpc2, bpc3, bpc4, bpc5, bpc6, bpc7, bpfz⟩
  clear bplt bpc0 bpc1 bpc2 bpc3 bpc4 bpc5 bpc6 bpc7 bpfz
  refine (HC _).mono ?_
  rintro e w5 ⟨rfl, hb⟩
  have L5 := L4.trans (hb.mono L4.size)
  have bp_5 := bp_4.below hb
  clear bp_4
  clear hb
  clear L4
  obtain ⟨bplt, bpc0, bpc1, bpc2, bpc3, bpc4, bpc5, bpc6, bpc7, bpfz⟩ := bp_5
  go_wp2_with fail
  have bp_5 : Blk8 _ _ _ _ _ _ _ _ _ _ := ⟨bplt, bpc0, bpc1, bpc2, bpc3, bpc4, bpc5, bpc6, bpc7, bpfz⟩
  clear bplt bpc0 bpc1 bpc2 bpc3 bpc4 bpc5 bpc6 bpc7 bpfz
  go_ret
  exact ⟨rfl, L5⟩
set_option maxHeartbeats 1000000 in
theorem CivilSeconds_ok (y mo d h mi s wd yd a1 : Int) (hr : Rt y mo d h mi s wd yd) (ho : -86399 ≤ a1) (ho2 : a1 ≤ 86399) (w : World) :
    Calls Try.prog 5 #[CV y mo d h mi s wd yd, .int .i64 a1] w fun e w' => e = .returned (.bool true) ∧ Below w.heap.size w w' := by
  have HS := Seconds_ok y mo d h mi s wd yd a1 hr ho ho2
  have HR := RightYes y mo d h mi s wd yd hr
  have HC := Check_yes y mo d h mi s wd yd hr
  obtain ⟨h1, h2, h3, h4, h5, h6, h7, h8, g9, g10⟩ := hr
  clear g9 g10
  obtain ⟨k1, k2, k3, k4, k5, k6⟩ := days_in h1 h2
  obtain ⟨n1, n2⟩ := num_in2 (m := mo) k1 k2 h1 k5
  have HN := refNum y mo d h mi s wd yd k1 k2 k3 k4 h1 k5
  clear k6
  unfold CV at *
  go_enter Try.func5, Try.ntmps5
  have L0 : Below w.heap.size w w := Below.refl _ _
  go_wp2_with fail
  have L1 : Below w.heap.size w (w.alloc (.cells #[.int .i64 y, .int .i64 mo, .int .i64 d, .int .i64 h, .int .i64 mi, .int .i64 s, .int .i64 wd, .int .i64 yd] 24)) := L0.alloc L0.size _
  have bp_1 := Blk8.new w (.int .i64 y) (.int .i64 mo) (.int .i64 d) (.int .i64 h) (.int .i64 mi) (.int .i64 s) (.int .i64 wd) (.int .i64 yd) 24
  clear L0
  refine (wakes_any _).mono ?_
  rintro e w2 ⟨rfl, hb⟩
  have L2 := L1.trans (hb.mono L1.size)
  have bp_2 := bp_1.below hb
  clear bp_1
  clear hb
  clear L1
  obtain ⟨bplt, bpc0, bpc1, bpc2, bpc3, bpc4, bpc5, bpc6, bpc7, bpfz⟩ := bp_2
  go_wp2_with fail
  have bp_2 : Blk8 _ _ _ _ _ _ _ _ _ _ := ⟨bplt, bpc0, bpc1, bpc2, bpc3, bpc4, bpc5, bpc6, bpc7, bpfz⟩
  clear bplt bpc0 bpc1 bpc2 bpc3 bpc4 bpc5 bpc6 bpc7 bpfz
  refine (HS _).mono ?_
  rintro e w3 ⟨rfl, hb⟩
  have L3 := L2.trans (hb.mono L2.size)
  have bp_3 := bp_2.below hb
  clear bp_2
  clear hb
  clear L2
  obtain ⟨bplt, bpc0, bpc1, bpc2, bpc3, bpc4, bpc5, bpc6, bpc7, bpfz⟩ := bp_3
  go_wp2_with fail
  have bp_3 : Blk8 _ _ _ _ _ _ _ _ _ _ := ⟨bplt, bpc0, bpc1, bpc2, bpc3, bpc4, bpc5, bpc6, bpc7, bpfz⟩
  clear bplt bpc0 bpc1 bpc2 bpc3 bpc4 bpc5 bpc6 bpc7 bpfz
  refine (HR _).mono ?_
  rintro e w4 ⟨rfl, hb⟩
  have L4 := L3.trans (hb.mono L3.size)
  have bp_4 := bp_3.below hb
  clear bp_3
  clear hb
  clear L3
  obtain ⟨bplt, bpc0, bpc1, bpc2, bpc3, bpc4, bpc5, bpc6, bpc7, bpfz⟩ := bp_4
  go_wp2_with fail
  have bp_4 : Blk8 _ _ _ _ _ _ _ _ _ _ := ⟨bplt, bpc0, bpc1, bpc2, bpc3, bpc4, bpc5, bpc6, bpc7, bpfz⟩
  clear bplt bpc0 bpc1 bpc2 bpc3 bpc4 bpc5 bpc6 bpc7 bpfz
  refine (HC _).mono ?_
  rintro e w5 ⟨rfl, hb⟩
  have L5 := L4.trans (hb.mono L4.size)
  have bp_5 := bp_4.below hb
  clear bp_4
  clear hb
  clear L4
  obtain ⟨bplt, bpc0, bpc1, bpc2, bpc3, bpc4, bpc5, bpc6, bpc7, bpfz⟩ := bp_5
  go_wp2_with fail
  have bp_5 : Blk8 _ _ _ _ _ _ _ _ _ _ := ⟨bplt, bpc0, bpc1, bpc2, bpc3, bpc4, bpc5, bpc6, bpc7, bpfz⟩
  clear bplt bpc0 bpc1 bpc2 bpc3 bpc4 bpc5 bpc6 bpc7 bpfz
  generalize w5 = v6 at *
  have pbp0 := fun dr os => cell_regrown bp_5.a0 dr os
  have pbp1 := fun dr os => cell_regrown bp_5.a1 dr os
  have pbp2 := fun dr os => cell_regrown bp_5.a2 dr os
  have pbp3 := fun dr os => cell_regrown bp_5.a3 dr os
  have pbp4 := fun dr os => cell_regrown bp_5.a4 dr os
  have pbp5 := fun dr os => cell_regrown bp_5.a5 dr os
  have pbp6 := fun dr os => cell_regrown bp_5.a6 dr os
  have pbp7 := fun dr os => cell_regrown bp_5.a7 dr os
  refine wp_region_quiet_below (by kernel_rfl) (by kernel_rfl) ?_
  repeat (any_goals (first | go_big_quiet_step ((go_at_call 21; exact Calls.regrown_of (HN _))) | quiet_step ((go_at_call 21; exact Calls.regrown_of (HN _)))))
  refine wpQuiet_nil ?_
  intro _ hw'
  obtain ⟨⟨dq7, osq7⟩, hw''⟩ := hw'
  subst hw''
  clear pbp0 pbp1 pbp2 pbp3 pbp4 pbp5 pbp6 pbp7
  have L7 := L5.trans ((below_regrown v6 dq7 osq7).mono L5.size)
  have bp_7 := bp_5.below (below_regrown v6 dq7 osq7)
  clear bp_5
  clear L5
  generalize (Go.Sort.grow (redrawn v6 dq7) osq7) = v8 at *
  go_wp2_with fail
  go_ret
  exact ⟨rfl, L7⟩
theorem CivilSeconds_any (y mo d h mi s wd yd a1 : Int) (w : World) :
    Calls Try.prog 5 #[CV y mo d h mi s wd yd, .int .i64 a1] w fun e w' => e = .returned (.bool true) ∧ Below w.heap.size w w' := by
  by_cases hr : Rt y mo d h mi s wd yd
  · by_cases h1 : a1 < -86399
    · exact CivilSeconds_off1 y mo d h mi s wd yd a1 hr h1 w
    · by_cases h2 : 86399 < a1
      · exact CivilSeconds_off2 y mo d h mi s wd yd a1 hr h2 w
      · exact CivilSeconds_ok y mo d h mi s wd yd a1 hr (by omega) (by omega) w
  · exact CivilSeconds_bad y mo d h mi s wd yd a1 hr w
theorem CivilSeconds_walk (y mo d h mi s wd yd a1 : Int) (_b0 : -9223372036854775808 ≤ y) (_b0' : y ≤ 9223372036854775807) (_b1 : -9223372036854775808 ≤ mo) (_b1' : mo ≤ 9223372036854775807) (_b2 : -9223372036854775808 ≤ d) (_b2' : d ≤ 9223372036854775807) (_b3 : -9223372036854775808 ≤ h) (_b3' : h ≤ 9223372036854775807) (_b4 : -9223372036854775808 ≤ mi) (_b4' : mi ≤ 9223372036854775807) (_b5 : -9223372036854775808 ≤ s) (_b5' : s ≤ 9223372036854775807) (_b6 : -9223372036854775808 ≤ wd) (_b6' : wd ≤ 9223372036854775807) (_b7 : -9223372036854775808 ≤ yd) (_b7' : yd ≤ 9223372036854775807) (_b8 : -9223372036854775808 ≤ a1) (_b8' : a1 ≤ 9223372036854775807) (w : World) :
    Calls Try.prog 5 #[.agg #[.int .i64 y, .int .i64 mo, .int .i64 d, .int .i64 h, .int .i64 mi, .int .i64 s, .int .i64 wd, .int .i64 yd], .int .i64 a1] w fun e w' => e = .returned (.bool true) ∧ Below w.heap.size w w' := CivilSeconds_any y mo d h mi s wd yd a1 w
end Go.Proofs.Ytafoodfbjebdcaa
