/-
  CivilYears' walk: the law returns true for every year and month. No condition.
-/
import Derived.Test.YtafoodfbjebdcaaH
import Derived.Test.YtafoodfbjebdcaaK
import Derived.WalkKit
import Derived.ProofKit
import Derived.OpenShut
import Derived.Deep.QuietTactic
import Derived.BigQuiet
import Derived.Lib.Hide
import Derived.WalkLawsBesides
import Derived.Lib.QuietBelow
namespace Go.Proofs.Ytafoodfbjebdcaa
open Go.ChangeShapes Go.WideShapes Go.ChangeAt Go.RowKit
set_option maxHeartbeats 1000000 in
theorem CivilYears_valid (y m : Int) (b : Bool) (hb0 : Cal.lp y = b) (hy : -9999 ≤ y) (hy2 : y ≤ 9999) (hm : 1 ≤ m) (hm2 : m ≤ 12) (w : World) :
    Calls Try.prog 4 #[.int .i64 y, .int .i64 m] w fun e w' => e = .returned (.bool true) ∧ Below w.heap.size w w' := by
  have HB := Lib.hid hb0
  clear hb0
  have hdm := Cal.dim_pos y m
  have hD : Cal.days y m = Cal.dim y m := if_pos ⟨hy, hy2, hm, hm2⟩
  have H1 := Date_yes y m 1 (by omega) (by omega)
  have H2 := Date_yes y m (Cal.dim y m) (by omega) (by omega)
  have H3 := Date_no y m (Cal.dim y m + 1) (by omega)
  have H4 := refNum y m 1 0 0 0 0 0 hy hy2 hm hm2 (by omega) (by omega)
  have H5 := refOf (Cal.num y m 1) 0 (by have := num_in3 (m := m) (d := 1) hy hy2 (by omega) (by omega); omega) (by have := num_in3 (m := m) (d := 1) hy hy2 (by omega) (by omega); omega) (by omega) (by omega)
  have DR := dayR y m
  have DP := dayP y m
  have v1 : Cal.valid y m 1 := ⟨hm, hm2, by omega, by omega⟩
  have v2 : Cal.valid y m (Cal.dim y m) := ⟨hm, hm2, by omega, by omega⟩
  have t1 := (Cal.told_num v1).1
  have t2 := (Cal.told_num v2).2.2
  rw [show refOfV (Cal.num y m 1) 0 = .tuple #[civ (Cal.num y m 1) 0, .bool true] from if_pos (by rw [t1]; exact ⟨hy, hy2⟩)] at H5
  obtain ⟨c1, c2, c3, c4, c5, c6, c7, c8, E1⟩ := civ_ex (Cal.num y m 1) 0
  obtain ⟨e1, e2, e4, e5, e6, e7, e8, E2⟩ : ∃ e1 e2 e4 e5 e6 e7 e8 : Int, civ (Cal.num y m (Cal.dim y m)) 0 = .agg #[.int .i64 e1, .int .i64 e2, .int .i64 (Cal.dim y m), .int .i64 e4, .int .i64 e5, .int .i64 e6, .int .i64 e7, .int .i64 e8] := ⟨Cal.Year (Cal.num y m (Cal.dim y m)), _, _, _, _, _, _, by unfold civ; rw [t2]⟩
  rw [E1] at H1 H5
  rw [E2] at H2
  unfold civ0 at H3
  rw [hD] at DR DP
  clear E1 E2 t1 t2 v1 v2 hD
  obtain ⟨hd1, hd2⟩ := hdm
  generalize Cal.dim y m = D at *
  generalize Cal.num y m 1 = N at *
  have hD0 : (D == 0) = false := beq_eq_false_iff_ne.2 (by omega)
  cases b
  · go_enter Try.func4, Try.ntmps4
    have L0 : Below w.heap.size w w := Below.refl _ _
    go_wp2_with fail
    refine (wakes_any _).mono ?_
    rintro e w1 ⟨rfl, hb⟩
    have L1 := L0.trans (hb.mono L0.size)
    clear hb
    clear L0
    go_wp2_with fail
    refine (yrR_yes y hy hy2 _).mono ?_
    rintro e w' ⟨rfl, rfl⟩
    go_wp2_with fail
    refine (leapR y _ HB.out _).mono ?_
    rintro e w' ⟨rfl, rfl⟩
    go_wp2_with fail
    refine (H1 _).mono ?_
    rintro e w4 ⟨rfl, hb⟩
    have L4 := L1.trans (hb.mono L1.size)
    clear hb
    clear L1
    go_wp2_with fail
    have L5 : Below w.heap.size w (w4.alloc (.cells #[.int .i64 c1, .int .i64 c2, .int .i64 c3, .int .i64 c4, .int .i64 c5, .int .i64 c6, .int .i64 c7, .int .i64 c8] 24)) := L4.alloc L4.size _
    have bc_5 := Blk8.new w4 (.int .i64 c1) (.int .i64 c2) (.int .i64 c3) (.int .i64 c4) (.int .i64 c5) (.int .i64 c6) (.int .i64 c7) (.int .i64 c8) 24
    clear L4
    refine (DR _).mono ?_
    rintro e w' ⟨rfl, rfl⟩
    obtain ⟨bclt, bcc0, bcc1, bcc2, bcc3, bcc4, bcc5, bcc6, bcc7, bcfz⟩ := bc_5
    go_wp2_with fail
    have bc_5 : Blk8 _ _ _ _ _ _ _ _ _ _ := ⟨bclt, bcc0, bcc1, bcc2, bcc3, bcc4, bcc5, bcc6, bcc7, bcfz⟩
    clear bclt bcc0 bcc1 bcc2 bcc3 bcc4 bcc5 bcc6 bcc7 bcfz
    refine (H2 _).mono ?_
    rintro e w7 ⟨rfl, hb⟩
    have L7 := L5.trans (hb.mono L5.size)
    have bc_7 := bc_5.below hb
    clear bc_5
    clear hb
    clear L5
    obtain ⟨bclt, bcc0, bcc1, bcc2, bcc3, bcc4, bcc5, bcc6, bcc7, bcfz⟩ := bc_7
    go_wp2_with fail
    have bc_7 : Blk8 _ _ _ _ _ _ _ _ _ _ := ⟨bclt, bcc0, bcc1, bcc2, bcc3, bcc4, bcc5, bcc6, bcc7, bcfz⟩
    clear bclt bcc0 bcc1 bcc2 bcc3 bcc4 bcc5 bcc6 bcc7 bcfz
    have L8 : Below w.heap.size w (w7.alloc (.cells #[.int .i64 e1, .int .i64 e2, .int .i64 D, .int .i64 e4, .int .i64 e5, .int .i64 e6, .int .i64 e7, .int .i64 e8] 24)) := L7.alloc L7.size _
    have bc_8 := bc_7.alloc #[.int .i64 e1, .int .i64 e2, .int .i64 D, .int .i64 e4, .int .i64 e5, .int .i64 e6, .int .i64 e7, .int .i64 e8] 24
    clear bc_7
    have bl_8 := Blk8.new w7 (.int .i64 e1) (.int .i64 e2) (.int .i64 D) (.int .i64 e4) (.int .i64 e5) (.int .i64 e6) (.int .i64 e7) (.int .i64 e8) 24
    clear L7
    refine (LeapP_yes y _ HB.out hy hy2 _).mono ?_
    rintro e w' ⟨rfl, rfl⟩
    obtain ⟨bclt, bcc0, bcc1, bcc2, bcc3, bcc4, bcc5, bcc6, bcc7, bcfz⟩ := bc_8
    obtain ⟨bllt, blc0, blc1, blc2, blc3, blc4, blc5, blc6, blc7, blfz⟩ := bl_8
    go_wp2_with fail
    have bc_8 : Blk8 _ _ _ _ _ _ _ _ _ _ := ⟨bclt, bcc0, bcc1, bcc2, bcc3, bcc4, bcc5, bcc6, bcc7, bcfz⟩
    clear bclt bcc0 bcc1 bcc2 bcc3 bcc4 bcc5 bcc6 bcc7 bcfz
    have bl_8 : Blk8 _ _ _ _ _ _ _ _ _ _ := ⟨bllt, blc0, blc1, blc2, blc3, blc4, blc5, blc6, blc7, blfz⟩
    clear bllt blc0 blc1 blc2 blc3 blc4 blc5 blc6 blc7 blfz
    refine (DP _).mono ?_
    rintro e w10 ⟨rfl, hb⟩
    have L10 := L8.trans (hb.mono L8.size)
    have bc_10 := bc_8.below hb
    clear bc_8
    have bl_10 := bl_8.below hb
    clear bl_8
    clear hb
    clear L8
    obtain ⟨bclt, bcc0, bcc1, bcc2, bcc3, bcc4, bcc5, bcc6, bcc7, bcfz⟩ := bc_10
    obtain ⟨bllt, blc0, blc1, blc2, blc3, blc4, blc5, blc6, blc7, blfz⟩ := bl_10
    go_wp2_with fail
    have bc_10 : Blk8 _ _ _ _ _ _ _ _ _ _ := ⟨bclt, bcc0, bcc1, bcc2, bcc3, bcc4, bcc5, bcc6, bcc7, bcfz⟩
    clear bclt bcc0 bcc1 bcc2 bcc3 bcc4 bcc5 bcc6 bcc7 bcfz
    have bl_10 : Blk8 _ _ _ _ _ _ _ _ _ _ := ⟨bllt, blc0, blc1, blc2, blc3, blc4, blc5, blc6, blc7, blfz⟩
    clear bllt blc0 blc1 blc2 blc3 blc4 blc5 blc6 blc7 blfz
    refine (DR _).mono ?_
    rintro e w' ⟨rfl, rfl⟩
    obtain ⟨bclt, bcc0, bcc1, bcc2, bcc3, bcc4, bcc5, bcc6, bcc7, bcfz⟩ := bc_10
    obtain ⟨bllt, blc0, blc1, blc2, blc3, blc4, blc5, blc6, blc7, blfz⟩ := bl_10
    go_wp2_with fail
    have bc_10 : Blk8 _ _ _ _ _ _ _ _ _ _ := ⟨bclt, bcc0, bcc1, bcc2, bcc3, bcc4, bcc5, bcc6, bcc7, bcfz⟩
    clear bclt bcc0 bcc1 bcc2 bcc3 bcc4 bcc5 bcc6 bcc7 bcfz
    have bl_10 : Blk8 _ _ _ _ _ _ _ _ _ _ := ⟨bllt, blc0, blc1, blc2, blc3, blc4, blc5, blc6, blc7, blfz⟩
    clear bllt blc0 blc1 blc2 blc3 blc4 blc5 blc6 blc7 blfz
    refine (DP _).mono ?_
    rintro e w12 ⟨rfl, hb⟩
    have L12 := L10.trans (hb.mono L10.size)
    have bc_12 := bc_10.below hb
    clear bc_10
    have bl_12 := bl_10.below hb
    clear bl_10
    clear hb
    clear L10
    obtain ⟨bclt, bcc0, bcc1, bcc2, bcc3, bcc4, bcc5, bcc6, bcc7, bcfz⟩ := bc_12
    obtain ⟨bllt, blc0, blc1, blc2, blc3, blc4, blc5, blc6, blc7, blfz⟩ := bl_12
    go_wp2_with fail
    have bc_12 : Blk8 _ _ _ _ _ _ _ _ _ _ := ⟨bclt, bcc0, bcc1, bcc2, bcc3, bcc4, bcc5, bcc6, bcc7, bcfz⟩
    clear bclt bcc0 bcc1 bcc2 bcc3 bcc4 bcc5 bcc6 bcc7 bcfz
    have bl_12 : Blk8 _ _ _ _ _ _ _ _ _ _ := ⟨bllt, blc0, blc1, blc2, blc3, blc4, blc5, blc6, blc7, blfz⟩
    clear bllt blc0 blc1 blc2 blc3 blc4 blc5 blc6 blc7 blfz
    refine (DR _).mono ?_
    rintro e w' ⟨rfl, rfl⟩
    obtain ⟨bclt, bcc0, bcc1, bcc2, bcc3, bcc4, bcc5, bcc6, bcc7, bcfz⟩ := bc_12
    obtain ⟨bllt, blc0, blc1, blc2, blc3, blc4, blc5, blc6, blc7, blfz⟩ := bl_12
    go_wp2_with fail
    have bc_12 : Blk8 _ _ _ _ _ _ _ _ _ _ := ⟨bclt, bcc0, bcc1, bcc2, bcc3, bcc4, bcc5, bcc6, bcc7, bcfz⟩
    clear bclt bcc0 bcc1 bcc2 bcc3 bcc4 bcc5 bcc6 bcc7 bcfz
    have bl_12 : Blk8 _ _ _ _ _ _ _ _ _ _ := ⟨bllt, blc0, blc1, blc2, blc3, blc4, blc5, blc6, blc7, blfz⟩
    clear bllt blc0 blc1 blc2 blc3 blc4 blc5 blc6 blc7 blfz
    refine (H3 _).mono ?_
    rintro e w14 ⟨rfl, hb⟩
    have L14 := L12.trans (hb.mono L12.size)
    have bc_14 := bc_12.below hb
    clear bc_12
    have bl_14 := bl_12.below hb
    clear bl_12
    clear hb
    clear L12
    obtain ⟨bclt, bcc0, bcc1, bcc2, bcc3, bcc4, bcc5, bcc6, bcc7, bcfz⟩ := bc_14
    obtain ⟨bllt, blc0, blc1, blc2, blc3, blc4, blc5, blc6, blc7, blfz⟩ := bl_14
    go_wp2_with fail
    have bc_14 : Blk8 _ _ _ _ _ _ _ _ _ _ := ⟨bclt, bcc0, bcc1, bcc2, bcc3, bcc4, bcc5, bcc6, bcc7, bcfz⟩
    clear bclt bcc0 bcc1 bcc2 bcc3 bcc4 bcc5 bcc6 bcc7 bcfz
    have bl_14 : Blk8 _ _ _ _ _ _ _ _ _ _ := ⟨bllt, blc0, blc1, blc2, blc3, blc4, blc5, blc6, blc7, blfz⟩
    clear bllt blc0 blc1 blc2 blc3 blc4 blc5 blc6 blc7 blfz
    have L15 : Below w.heap.size w (w14.alloc (.cells #[.int .i64 0, .int .i64 0, .int .i64 0, .int .i64 0, .int .i64 0, .int .i64 0, .int .i64 0, .int .i64 0] 24)) := L14.alloc L14.size _
    have bc_15 := bc_14.alloc #[.int .i64 0, .int .i64 0, .int .i64 0, .int .i64 0, .int .i64 0, .int .i64 0, .int .i64 0, .int .i64 0] 24
    clear bc_14
    have bl_15 := bl_14.alloc #[.int .i64 0, .int .i64 0, .int .i64 0, .int .i64 0, .int .i64 0, .int .i64 0, .int .i64 0, .int .i64 0] 24
    clear bl_14
    have bg_15 := Blk8.new w14 (.int .i64 0) (.int .i64 0) (.int .i64 0) (.int .i64 0) (.int .i64 0) (.int .i64 0) (.int .i64 0) (.int .i64 0) 24
    clear L14
    refine (H4 _).mono ?_
    rintro e w16 ⟨rfl, hb⟩
    have L16 := L15.trans (hb.mono L15.size)
    have bc_16 := bc_15.below hb
    clear bc_15
    have bl_16 := bl_15.below hb
    clear bl_15
    have bg_16 := bg_15.below hb
    clear bg_15
    clear hb
    clear L15
    obtain ⟨bclt, bcc0, bcc1, bcc2, bcc3, bcc4, bcc5, bcc6, bcc7, bcfz⟩ := bc_16
    obtain ⟨bllt, blc0, blc1, blc2, blc3, blc4, blc5, blc6, blc7, blfz⟩ := bl_16
    obtain ⟨bglt, bgc0, bgc1, bgc2, bgc3, bgc4, bgc5, bgc6, bgc7, bgfz⟩ := bg_16
    go_wp2_with fail
    have bc_16 : Blk8 _ _ _ _ _ _ _ _ _ _ := ⟨bclt, bcc0, bcc1, bcc2, bcc3, bcc4, bcc5, bcc6, bcc7, bcfz⟩
    clear bclt bcc0 bcc1 bcc2 bcc3 bcc4 bcc5 bcc6 bcc7 bcfz
    have bl_16 : Blk8 _ _ _ _ _ _ _ _ _ _ := ⟨bllt, blc0, blc1, blc2, blc3, blc4, blc5, blc6, blc7, blfz⟩
    clear bllt blc0 blc1 blc2 blc3 blc4 blc5 blc6 blc7 blfz
    have bg_16 : Blk8 _ _ _ _ _ _ _ _ _ _ := ⟨bglt, bgc0, bgc1, bgc2, bgc3, bgc4, bgc5, bgc6, bgc7, bgfz⟩
    clear bglt bgc0 bgc1 bgc2 bgc3 bgc4 bgc5 bgc6 bgc7 bgfz
    refine (H5 _).mono ?_
    rintro e w17 ⟨rfl, hb⟩
    have L17 := L16.trans (hb.mono L16.size)
    have bc_17 := bc_16.below hb
    clear bc_16
    have bl_17 := bl_16.below hb
    clear bl_16
    have bg_17 := bg_16.below hb
    clear bg_16
    clear hb
    clear L16
    obtain ⟨bclt, bcc0, bcc1, bcc2, bcc3, bcc4, bcc5, bcc6, bcc7, bcfz⟩ := bc_17
    obtain ⟨bllt, blc0, blc1, blc2, blc3, blc4, blc5, blc6, blc7, blfz⟩ := bl_17
    obtain ⟨bglt, bgc0, bgc1, bgc2, bgc3, bgc4, bgc5, bgc6, bgc7, bgfz⟩ := bg_17
    go_wp2_with fail
    have bc_17 : Blk8 _ _ _ _ _ _ _ _ _ _ := ⟨bclt, bcc0, bcc1, bcc2, bcc3, bcc4, bcc5, bcc6, bcc7, bcfz⟩
    clear bclt bcc0 bcc1 bcc2 bcc3 bcc4 bcc5 bcc6 bcc7 bcfz
    have bl_17 : Blk8 _ _ _ _ _ _ _ _ _ _ := ⟨bllt, blc0, blc1, blc2, blc3, blc4, blc5, blc6, blc7, blfz⟩
    clear bllt blc0 blc1 blc2 blc3 blc4 blc5 blc6 blc7 blfz
    have bg_17 : Blk8 _ _ _ _ _ _ _ _ _ _ := ⟨bglt, bgc0, bgc1, bgc2, bgc3, bgc4, bgc5, bgc6, bgc7, bgfz⟩
    clear bglt bgc0 bgc1 bgc2 bgc3 bgc4 bgc5 bgc6 bgc7 bgfz
    have L18 : Below w.heap.size w (w17.alloc (.cells #[.int .i64 c1, .int .i64 c2, .int .i64 c3, .int .i64 c4, .int .i64 c5, .int .i64 c6, .int .i64 c7, .int .i64 c8] 24)) := L17.alloc L17.size _
    have bc_18 := bc_17.alloc #[.int .i64 c1, .int .i64 c2, .int .i64 c3, .int .i64 c4, .int .i64 c5, .int .i64 c6, .int .i64 c7, .int .i64 c8] 24
    clear bc_17
    have bl_18 := bl_17.alloc #[.int .i64 c1, .int .i64 c2, .int .i64 c3, .int .i64 c4, .int .i64 c5, .int .i64 c6, .int .i64 c7, .int .i64 c8] 24
    clear bl_17
    have bg_18 := bg_17.alloc #[.int .i64 c1, .int .i64 c2, .int .i64 c3, .int .i64 c4, .int .i64 c5, .int .i64 c6, .int .i64 c7, .int .i64 c8] 24
    clear bg_17
    have bw_18 := Blk8.new w17 (.int .i64 c1) (.int .i64 c2) (.int .i64 c3) (.int .i64 c4) (.int .i64 c5) (.int .i64 c6) (.int .i64 c7) (.int .i64 c8) 24
    clear L17
    generalize (w17.alloc (.cells #[.int .i64 c1, .int .i64 c2, .int .i64 c3, .int .i64 c4, .int .i64 c5, .int .i64 c6, .int .i64 c7, .int .i64 c8] 24)) = v19 at *
    have pbc0 := fun dr os => cell_regrown bc_18.a0 dr os
    have pbc1 := fun dr os => cell_regrown bc_18.a1 dr os
    have pbc2 := fun dr os => cell_regrown bc_18.a2 dr os
    have pbc3 := fun dr os => cell_regrown bc_18.a3 dr os
    have pbc4 := fun dr os => cell_regrown bc_18.a4 dr os
    have pbc5 := fun dr os => cell_regrown bc_18.a5 dr os
    have pbc6 := fun dr os => cell_regrown bc_18.a6 dr os
    have pbc7 := fun dr os => cell_regrown bc_18.a7 dr os
    have pbl0 := fun dr os => cell_regrown bl_18.a0 dr os
    have pbl1 := fun dr os => cell_regrown bl_18.a1 dr os
    have pbl2 := fun dr os => cell_regrown bl_18.a2 dr os
    have pbl3 := fun dr os => cell_regrown bl_18.a3 dr os
    have pbl4 := fun dr os => cell_regrown bl_18.a4 dr os
    have pbl5 := fun dr os => cell_regrown bl_18.a5 dr os
    have pbl6 := fun dr os => cell_regrown bl_18.a6 dr os
    have pbl7 := fun dr os => cell_regrown bl_18.a7 dr os
    have pbw0 := fun dr os => cell_regrown bw_18.a0 dr os
    have pbw1 := fun dr os => cell_regrown bw_18.a1 dr os
    have pbw2 := fun dr os => cell_regrown bw_18.a2 dr os
    have pbw3 := fun dr os => cell_regrown bw_18.a3 dr os
    have pbw4 := fun dr os => cell_regrown bw_18.a4 dr os
    have pbw5 := fun dr os => cell_regrown bw_18.a5 dr os
    have pbw6 := fun dr os => cell_regrown bw_18.a6 dr os
    have pbw7 := fun dr os => cell_regrown bw_18.a7 dr os
    refine wp_region_quiet_below (by kernel_rfl) (by kernel_rfl) ?_
    repeat (quiet_step ((go_at_call 20; exact Calls.regrown_of (DP _))))
    refine wpQuiet_nil ?_
    intro _ hw'
    obtain ⟨⟨dq20, osq20⟩, hw''⟩ := hw'
    subst hw''
    clear pbc0 pbc1 pbc2 pbc3 pbc4 pbc5 pbc6 pbc7 pbl0 pbl1 pbl2 pbl3 pbl4 pbl5 pbl6 pbl7 pbw0 pbw1 pbw2 pbw3 pbw4 pbw5 pbw6 pbw7
    have L20 := L18.trans ((below_regrown v19 dq20 osq20).mono L18.size)
    have bc_20 := bc_18.below (below_regrown v19 dq20 osq20)
    clear bc_18
    have bl_20 := bl_18.below (below_regrown v19 dq20 osq20)
    clear bl_18
    have bg_20 := bg_18.below (below_regrown v19 dq20 osq20)
    clear bg_18
    have bw_20 := bw_18.below (below_regrown v19 dq20 osq20)
    clear bw_18
    clear L18
    generalize (Go.Sort.grow (redrawn v19 dq20) osq20) = v21 at *
    go_wp2_with fail
    go_ret
    exact ⟨rfl, L20⟩
  · go_enter Try.func4, Try.ntmps4
    have L0 : Below w.heap.size w w := Below.refl _ _
    go_wp2_with fail
    refine (wakes_any _).mono ?_
    rintro e w1 ⟨rfl, hb⟩
    have L1 := L0.trans (hb.mono L0.size)
    clear hb
    clear L0
    go_wp2_with fail
    refine (yrR_yes y hy hy2 _).mono ?_
    rintro e w' ⟨rfl, rfl⟩
    go_wp2_with fail
    refine (leapR y _ HB.out _).mono ?_
    rintro e w' ⟨rfl, rfl⟩
    go_wp2_with fail
    refine (H1 _).mono ?_
    rintro e w4 ⟨rfl, hb⟩
    have L4 := L1.trans (hb.mono L1.size)
    clear hb
    clear L1
    go_wp2_with fail
    have L5 : Below w.heap.size w (w4.alloc (.cells #[.int .i64 c1, .int .i64 c2, .int .i64 c3, .int .i64 c4, .int .i64 c5, .int .i64 c6, .int .i64 c7, .int .i64 c8] 24)) := L4.alloc L4.size _
    have bc_5 := Blk8.new w4 (.int .i64 c1) (.int .i64 c2) (.int .i64 c3) (.int .i64 c4) (.int .i64 c5) (.int .i64 c6) (.int .i64 c7) (.int .i64 c8) 24
    clear L4
    refine (DR _).mono ?_
    rintro e w' ⟨rfl, rfl⟩
    obtain ⟨bclt, bcc0, bcc1, bcc2, bcc3, bcc4, bcc5, bcc6, bcc7, bcfz⟩ := bc_5
    go_wp2_with fail
    have bc_5 : Blk8 _ _ _ _ _ _ _ _ _ _ := ⟨bclt, bcc0, bcc1, bcc2, bcc3, bcc4, bcc5, bcc6, bcc7, bcfz⟩
    clear bclt bcc0 bcc1 bcc2 bcc3 bcc4 bcc5 bcc6 bcc7 bcfz
    refine (H2 _).mono ?_
    rintro e w7 ⟨rfl, hb⟩
    have L7 := L5.trans (hb.mono L5.size)
    have bc_7 := bc_5.below hb
    clear bc_5
    clear hb
    clear L5
    obtain ⟨bclt, bcc0, bcc1, bcc2, bcc3, bcc4, bcc5, bcc6, bcc7, bcfz⟩ := bc_7
    go_wp2_with fail
    have bc_7 : Blk8 _ _ _ _ _ _ _ _ _ _ := ⟨bclt, bcc0, bcc1, bcc2, bcc3, bcc4, bcc5, bcc6, bcc7, bcfz⟩
    clear bclt bcc0 bcc1 bcc2 bcc3 bcc4 bcc5 bcc6 bcc7 bcfz
    have L8 : Below w.heap.size w (w7.alloc (.cells #[.int .i64 e1, .int .i64 e2, .int .i64 D, .int .i64 e4, .int .i64 e5, .int .i64 e6, .int .i64 e7, .int .i64 e8] 24)) := L7.alloc L7.size _
    have bc_8 := bc_7.alloc #[.int .i64 e1, .int .i64 e2, .int .i64 D, .int .i64 e4, .int .i64 e5, .int .i64 e6, .int .i64 e7, .int .i64 e8] 24
    clear bc_7
    have bl_8 := Blk8.new w7 (.int .i64 e1) (.int .i64 e2) (.int .i64 D) (.int .i64 e4) (.int .i64 e5) (.int .i64 e6) (.int .i64 e7) (.int .i64 e8) 24
    clear L7
    refine (LeapP_yes y _ HB.out hy hy2 _).mono ?_
    rintro e w' ⟨rfl, rfl⟩
    obtain ⟨bclt, bcc0, bcc1, bcc2, bcc3, bcc4, bcc5, bcc6, bcc7, bcfz⟩ := bc_8
    obtain ⟨bllt, blc0, blc1, blc2, blc3, blc4, blc5, blc6, blc7, blfz⟩ := bl_8
    go_wp2_with fail
    have bc_8 : Blk8 _ _ _ _ _ _ _ _ _ _ := ⟨bclt, bcc0, bcc1, bcc2, bcc3, bcc4, bcc5, bcc6, bcc7, bcfz⟩
    clear bclt bcc0 bcc1 bcc2 bcc3 bcc4 bcc5 bcc6 bcc7 bcfz
    have bl_8 : Blk8 _ _ _ _ _ _ _ _ _ _ := ⟨bllt, blc0, blc1, blc2, blc3, blc4, blc5, blc6, blc7, blfz⟩
    clear bllt blc0 blc1 blc2 blc3 blc4 blc5 blc6 blc7 blfz
    refine (DP _).mono ?_
    rintro e w10 ⟨rfl, hb⟩
    have L10 := L8.trans (hb.mono L8.size)
    have bc_10 := bc_8.below hb
    clear bc_8
    have bl_10 := bl_8.below hb
    clear bl_8
    clear hb
    clear L8
    obtain ⟨bclt, bcc0, bcc1, bcc2, bcc3, bcc4, bcc5, bcc6, bcc7, bcfz⟩ := bc_10
    obtain ⟨bllt, blc0, blc1, blc2, blc3, blc4, blc5, blc6, blc7, blfz⟩ := bl_10
    go_wp2_with fail
    have bc_10 : Blk8 _ _ _ _ _ _ _ _ _ _ := ⟨bclt, bcc0, bcc1, bcc2, bcc3, bcc4, bcc5, bcc6, bcc7, bcfz⟩
    clear bclt bcc0 bcc1 bcc2 bcc3 bcc4 bcc5 bcc6 bcc7 bcfz
    have bl_10 : Blk8 _ _ _ _ _ _ _ _ _ _ := ⟨bllt, blc0, blc1, blc2, blc3, blc4, blc5, blc6, blc7, blfz⟩
    clear bllt blc0 blc1 blc2 blc3 blc4 blc5 blc6 blc7 blfz
    refine (DR _).mono ?_
    rintro e w' ⟨rfl, rfl⟩
    obtain ⟨bclt, bcc0, bcc1, bcc2, bcc3, bcc4, bcc5, bcc6, bcc7, bcfz⟩ := bc_10
    obtain ⟨bllt, blc0, blc1, blc2, blc3, blc4, blc5, blc6, blc7, blfz⟩ := bl_10
    go_wp2_with fail
    have bc_10 : Blk8 _ _ _ _ _ _ _ _ _ _ := ⟨bclt, bcc0, bcc1, bcc2, bcc3, bcc4, bcc5, bcc6, bcc7, bcfz⟩
    clear bclt bcc0 bcc1 bcc2 bcc3 bcc4 bcc5 bcc6 bcc7 bcfz
    have bl_10 : Blk8 _ _ _ _ _ _ _ _ _ _ := ⟨bllt, blc0, blc1, blc2, blc3, blc4, blc5, blc6, blc7, blfz⟩
    clear bllt blc0 blc1 blc2 blc3 blc4 blc5 blc6 blc7 blfz
    refine (DP _).mono ?_
    rintro e w12 ⟨rfl, hb⟩
    have L12 := L10.trans (hb.mono L10.size)
    have bc_12 := bc_10.below hb
    clear bc_10
    have bl_12 := bl_10.below hb
    clear bl_10
    clear hb
    clear L10
    obtain ⟨bclt, bcc0, bcc1, bcc2, bcc3, bcc4, bcc5, bcc6, bcc7, bcfz⟩ := bc_12
    obtain ⟨bllt, blc0, blc1, blc2, blc3, blc4, blc5, blc6, blc7, blfz⟩ := bl_12
    go_wp2_with fail
    have bc_12 : Blk8 _ _ _ _ _ _ _ _ _ _ := ⟨bclt, bcc0, bcc1, bcc2, bcc3, bcc4, bcc5, bcc6, bcc7, bcfz⟩
    clear bclt bcc0 bcc1 bcc2 bcc3 bcc4 bcc5 bcc6 bcc7 bcfz
    have bl_12 : Blk8 _ _ _ _ _ _ _ _ _ _ := ⟨bllt, blc0, blc1, blc2, blc3, blc4, blc5, blc6, blc7, blfz⟩
    clear bllt blc0 blc1 blc2 blc3 blc4 blc5 blc6 blc7 blfz
    refine (DR _).mono ?_
    rintro e w' ⟨rfl, rfl⟩
    obtain ⟨bclt, bcc0, bcc1, bcc2, bcc3, bcc4, bcc5, bcc6, bcc7, bcfz⟩ := bc_12
    obtain ⟨bllt, blc0, blc1, blc2, blc3, blc4, blc5, blc6, blc7, blfz⟩ := bl_12
    go_wp2_with fail
    have bc_12 : Blk8 _ _ _ _ _ _ _ _ _ _ := ⟨bclt, bcc0, bcc1, bcc2, bcc3, bcc4, bcc5, bcc6, bcc7, bcfz⟩
    clear bclt bcc0 bcc1 bcc2 bcc3 bcc4 bcc5 bcc6 bcc7 bcfz
    have bl_12 : Blk8 _ _ _ _ _ _ _ _ _ _ := ⟨bllt, blc0, blc1, blc2, blc3, blc4, blc5, blc6, blc7, blfz⟩
    clear bllt blc0 blc1 blc2 blc3 blc4 blc5 blc6 blc7 blfz
    refine (H3 _).mono ?_
    rintro e w14 ⟨rfl, hb⟩
    have L14 := L12.trans (hb.mono L12.size)
    have bc_14 := bc_12.below hb
    clear bc_12
    have bl_14 := bl_12.below hb
    clear bl_12
    clear hb
    clear L12
    obtain ⟨bclt, bcc0, bcc1, bcc2, bcc3, bcc4, bcc5, bcc6, bcc7, bcfz⟩ := bc_14
    obtain ⟨bllt, blc0, blc1, blc2, blc3, blc4, blc5, blc6, blc7, blfz⟩ := bl_14
    go_wp2_with fail
    have bc_14 : Blk8 _ _ _ _ _ _ _ _ _ _ := ⟨bclt, bcc0, bcc1, bcc2, bcc3, bcc4, bcc5, bcc6, bcc7, bcfz⟩
    clear bclt bcc0 bcc1 bcc2 bcc3 bcc4 bcc5 bcc6 bcc7 bcfz
    have bl_14 : Blk8 _ _ _ _ _ _ _ _ _ _ := ⟨bllt, blc0, blc1, blc2, blc3, blc4, blc5, blc6, blc7, blfz⟩
    clear bllt blc0 blc1 blc2 blc3 blc4 blc5 blc6 blc7 blfz
    have L15 : Below w.heap.size w (w14.alloc (.cells #[.int .i64 0, .int .i64 0, .int .i64 0, .int .i64 0, .int .i64 0, .int .i64 0, .int .i64 0, .int .i64 0] 24)) := L14.alloc L14.size _
    have bc_15 := bc_14.alloc #[.int .i64 0, .int .i64 0, .int .i64 0, .int .i64 0, .int .i64 0, .int .i64 0, .int .i64 0, .int .i64 0] 24
    clear bc_14
    have bl_15 := bl_14.alloc #[.int .i64 0, .int .i64 0, .int .i64 0, .int .i64 0, .int .i64 0, .int .i64 0, .int .i64 0, .int .i64 0] 24
    clear bl_14
    have bg_15 := Blk8.new w14 (.int .i64 0) (.int .i64 0) (.int .i64 0) (.int .i64 0) (.int .i64 0) (.int .i64 0) (.int .i64 0) (.int .i64 0) 24
    clear L14
    refine (H4 _).mono ?_
    rintro e w16 ⟨rfl, hb⟩
    have L16 := L15.trans (hb.mono L15.size)
    have bc_16 := bc_15.below hb
    clear bc_15
    have bl_16 := bl_15.below hb
    clear bl_15
    have bg_16 := bg_15.below hb
    clear bg_15
    clear hb
    clear L15
    obtain ⟨bclt, bcc0, bcc1, bcc2, bcc3, bcc4, bcc5, bcc6, bcc7, bcfz⟩ := bc_16
    obtain ⟨bllt, blc0, blc1, blc2, blc3, blc4, blc5, blc6, blc7, blfz⟩ := bl_16
    obtain ⟨bglt, bgc0, bgc1, bgc2, bgc3, bgc4, bgc5, bgc6, bgc7, bgfz⟩ := bg_16
    go_wp2_with fail
    have bc_16 : Blk8 _ _ _ _ _ _ _ _ _ _ := ⟨bclt, bcc0, bcc1, bcc2, bcc3, bcc4, bcc5, bcc6, bcc7, bcfz⟩
    clear bclt bcc0 bcc1 bcc2 bcc3 bcc4 bcc5 bcc6 bcc7 bcfz
    have bl_16 : Blk8 _ _ _ _ _ _ _ _ _ _ := ⟨bllt, blc0, blc1, blc2, blc3, blc4, blc5, blc6, blc7, blfz⟩
    clear bllt blc0 blc1 blc2 blc3 blc4 blc5 blc6 blc7 blfz
    have bg_16 : Blk8 _ _ _ _ _ _ _ _ _ _ := ⟨bglt, bgc0, bgc1, bgc2, bgc3, bgc4, bgc5, bgc6, bgc7, bgfz⟩
    clear bglt bgc0 bgc1 bgc2 bgc3 bgc4 bgc5 bgc6 bgc7 bgfz
    refine (H5 _).mono ?_
    rintro e w17 ⟨rfl, hb⟩
    have L17 := L16.trans (hb.mono L16.size)
    have bc_17 := bc_16.below hb
    clear bc_16
    have bl_17 := bl_16.below hb
    clear bl_16
    have bg_17 := bg_16.below hb
    clear bg_16
    clear hb
    clear L16
    obtain ⟨bclt, bcc0, bcc1, bcc2, bcc3, bcc4, bcc5, bcc6, bcc7, bcfz⟩ := bc_17
    obtain ⟨bllt, blc0, blc1, blc2, blc3, blc4, blc5, blc6, blc7, blfz⟩ := bl_17
    obtain ⟨bglt, bgc0, bgc1, bgc2, bgc3, bgc4, bgc5, bgc6, bgc7, bgfz⟩ := bg_17
    go_wp2_with fail
    have bc_17 : Blk8 _ _ _ _ _ _ _ _ _ _ := ⟨bclt, bcc0, bcc1, bcc2, bcc3, bcc4, bcc5, bcc6, bcc7, bcfz⟩
    clear bclt bcc0 bcc1 bcc2 bcc3 bcc4 bcc5 bcc6 bcc7 bcfz
    have bl_17 : Blk8 _ _ _ _ _ _ _ _ _ _ := ⟨bllt, blc0, blc1, blc2, blc3, blc4, blc5, blc6, blc7, blfz⟩
    clear bllt blc0 blc1 blc2 blc3 blc4 blc5 blc6 blc7 blfz
    have bg_17 : Blk8 _ _ _ _ _ _ _ _ _ _ := ⟨bglt, bgc0, bgc1, bgc2, bgc3, bgc4, bgc5, bgc6, bgc7, bgfz⟩
    clear bglt bgc0 bgc1 bgc2 bgc3 bgc4 bgc5 bgc6 bgc7 bgfz
    have L18 : Below w.heap.size w (w17.alloc (.cells #[.int .i64 c1, .int .i64 c2, .int .i64 c3, .int .i64 c4, .int .i64 c5, .int .i64 c6, .int .i64 c7, .int .i64 c8] 24)) := L17.alloc L17.size _
    have bc_18 := bc_17.alloc #[.int .i64 c1, .int .i64 c2, .int .i64 c3, .int .i64 c4, .int .i64 c5, .int .i64 c6, .int .i64 c7, .int .i64 c8] 24
    clear bc_17
    have bl_18 := bl_17.alloc #[.int .i64 c1, .int .i64 c2, .int .i64 c3, .int .i64 c4, .int .i64 c5, .int .i64 c6, .int .i64 c7, .int .i64 c8] 24
    clear bl_17
    have bg_18 := bg_17.alloc #[.int .i64 c1, .int .i64 c2, .int .i64 c3, .int .i64 c4, .int .i64 c5, .int .i64 c6, .int .i64 c7, .int .i64 c8] 24
    clear bg_17
    have bw_18 := Blk8.new w17 (.int .i64 c1) (.int .i64 c2) (.int .i64 c3) (.int .i64 c4) (.int .i64 c5) (.int .i64 c6) (.int .i64 c7) (.int .i64 c8) 24
    clear L17
    generalize (w17.alloc (.cells #[.int .i64 c1, .int .i64 c2, .int .i64 c3, .int .i64 c4, .int .i64 c5, .int .i64 c6, .int .i64 c7, .int .i64 c8] 24)) = v19 at *
    have pbc0 := fun dr os => cell_regrown bc_18.a0 dr os
    have pbc1 := fun dr os => cell_regrown bc_18.a1 dr os
    have pbc2 := fun dr os => cell_regrown bc_18.a2 dr os
    have pbc3 := fun dr os => cell_regrown bc_18.a3 dr os
    have pbc4 := fun dr os => cell_regrown bc_18.a4 dr os
    have pbc5 := fun dr os => cell_regrown bc_18.a5 dr os
    have pbc6 := fun dr os => cell_regrown bc_18.a6 dr os
    have pbc7 := fun dr os => cell_regrown bc_18.a7 dr os
    have pbl0 := fun dr os => cell_regrown bl_18.a0 dr os
    have pbl1 := fun dr os => cell_regrown bl_18.a1 dr os
    have pbl2 := fun dr os => cell_regrown bl_18.a2 dr os
    have pbl3 := fun dr os => cell_regrown bl_18.a3 dr os
    have pbl4 := fun dr os => cell_regrown bl_18.a4 dr os
    have pbl5 := fun dr os => cell_regrown bl_18.a5 dr os
    have pbl6 := fun dr os => cell_regrown bl_18.a6 dr os
    have pbl7 := fun dr os => cell_regrown bl_18.a7 dr os
    have pbw0 := fun dr os => cell_regrown bw_18.a0 dr os
    have pbw1 := fun dr os => cell_regrown bw_18.a1 dr os
    have pbw2 := fun dr os => cell_regrown bw_18.a2 dr os
    have pbw3 := fun dr os => cell_regrown bw_18.a3 dr os
    have pbw4 := fun dr os => cell_regrown bw_18.a4 dr os
    have pbw5 := fun dr os => cell_regrown bw_18.a5 dr os
    have pbw6 := fun dr os => cell_regrown bw_18.a6 dr os
    have pbw7 := fun dr os => cell_regrown bw_18.a7 dr os
    refine wp_region_quiet_below (by kernel_rfl) (by kernel_rfl) ?_
    repeat (quiet_step ((go_at_call 20; exact Calls.regrown_of (DP _))))
    refine wpQuiet_nil ?_
    intro _ hw'
    obtain ⟨⟨dq20, osq20⟩, hw''⟩ := hw'
    subst hw''
    clear pbc0 pbc1 pbc2 pbc3 pbc4 pbc5 pbc6 pbc7 pbl0 pbl1 pbl2 pbl3 pbl4 pbl5 pbl6 pbl7 pbw0 pbw1 pbw2 pbw3 pbw4 pbw5 pbw6 pbw7
    have L20 := L18.trans ((below_regrown v19 dq20 osq20).mono L18.size)
    have bc_20 := bc_18.below (below_regrown v19 dq20 osq20)
    clear bc_18
    have bl_20 := bl_18.below (below_regrown v19 dq20 osq20)
    clear bl_18
    have bg_20 := bg_18.below (below_regrown v19 dq20 osq20)
    clear bg_18
    have bw_20 := bw_18.below (below_regrown v19 dq20 osq20)
    clear bw_18
    clear L18
    generalize (Go.Sort.grow (redrawn v19 dq20) osq20) = v21 at *
    go_wp2_with fail
    go_ret
    exact ⟨rfl, L20⟩
set_option maxHeartbeats 1000000 in
theorem CivilYears_month (y m : Int) (b : Bool) (hb0 : Cal.lp y = b) (hy : -9999 ≤ y) (hy2 : y ≤ 9999) (hD : Cal.days y m = 0) (w : World) :
    Calls Try.prog 4 #[.int .i64 y, .int .i64 m] w fun e w' => e = .returned (.bool true) ∧ Below w.heap.size w w' := by
  have HB := Lib.hid hb0
  clear hb0
  have DR := dayR y m
  have DP := dayP y m
  have H1 := Date_no y m 1 (by rw [hD]; omega)
  have H2 := Date_no y m 0 (by omega)
  rw [hD] at DR DP
  clear hD
  unfold civ0 at H1 H2
  cases b
  · go_enter Try.func4, Try.ntmps4
    have L0 : Below w.heap.size w w := Below.refl _ _
    go_wp2_with fail
    refine (wakes_any _).mono ?_
    rintro e w1 ⟨rfl, hb⟩
    have L1 := L0.trans (hb.mono L0.size)
    clear hb
    clear L0
    go_wp2_with fail
    refine (yrR_yes y hy hy2 _).mono ?_
    rintro e w' ⟨rfl, rfl⟩
    go_wp2_with fail
    refine (leapR y _ HB.out _).mono ?_
    rintro e w' ⟨rfl, rfl⟩
    go_wp2_with fail
    refine (H1 _).mono ?_
    rintro e w4 ⟨rfl, hb⟩
    have L4 := L1.trans (hb.mono L1.size)
    clear hb
    clear L1
    go_wp2_with fail
    have L5 : Below w.heap.size w (w4.alloc (.cells #[.int .i64 0, .int .i64 0, .int .i64 0, .int .i64 0, .int .i64 0, .int .i64 0, .int .i64 0, .int .i64 0] 24)) := L4.alloc L4.size _
    have bc_5 := Blk8.new w4 (.int .i64 0) (.int .i64 0) (.int .i64 0) (.int .i64 0) (.int .i64 0) (.int .i64 0) (.int .i64 0) (.int .i64 0) 24
    clear L4
    refine (DR _).mono ?_
    rintro e w' ⟨rfl, rfl⟩
    obtain ⟨bclt, bcc0, bcc1, bcc2, bcc3, bcc4, bcc5, bcc6, bcc7, bcfz⟩ := bc_5
    go_wp2_with fail
    have bc_5 : Blk8 _ _ _ _ _ _ _ _ _ _ := ⟨bclt, bcc0, bcc1, bcc2, bcc3, bcc4, bcc5, bcc6, bcc7, bcfz⟩
    clear bclt bcc0 bcc1 bcc2 bcc3 bcc4 bcc5 bcc6 bcc7 bcfz
    refine (H2 _).mono ?_
    rintro e w7 ⟨rfl, hb⟩
    have L7 := L5.trans (hb.mono L5.size)
    have bc_7 := bc_5.below hb
    clear bc_5
    clear hb
    clear L5
    obtain ⟨bclt, bcc0, bcc1, bcc2, bcc3, bcc4, bcc5, bcc6, bcc7, bcfz⟩ := bc_7
    go_wp2_with fail
    have bc_7 : Blk8 _ _ _ _ _ _ _ _ _ _ := ⟨bclt, bcc0, bcc1, bcc2, bcc3, bcc4, bcc5, bcc6, bcc7, bcfz⟩
    clear bclt bcc0 bcc1 bcc2 bcc3 bcc4 bcc5 bcc6 bcc7 bcfz
    have L8 : Below w.heap.size w (w7.alloc (.cells #[.int .i64 0, .int .i64 0, .int .i64 0, .int .i64 0, .int .i64 0, .int .i64 0, .int .i64 0, .int .i64 0] 24)) := L7.alloc L7.size _
    have bc_8 := bc_7.alloc #[.int .i64 0, .int .i64 0, .int .i64 0, .int .i64 0, .int .i64 0, .int .i64 0, .int .i64 0, .int .i64 0] 24
    clear bc_7
    have bl_8 := Blk8.new w7 (.int .i64 0) (.int .i64 0) (.int .i64 0) (.int .i64 0) (.int .i64 0) (.int .i64 0) (.int .i64 0) (.int .i64 0) 24
    clear L7
    refine (LeapP_yes y _ HB.out hy hy2 _).mono ?_
    rintro e w' ⟨rfl, rfl⟩
    obtain ⟨bclt, bcc0, bcc1, bcc2, bcc3, bcc4, bcc5, bcc6, bcc7, bcfz⟩ := bc_8
    obtain ⟨bllt, blc0, blc1, blc2, blc3, blc4, blc5, blc6, blc7, blfz⟩ := bl_8
    go_wp2_with fail
    have bc_8 : Blk8 _ _ _ _ _ _ _ _ _ _ := ⟨bclt, bcc0, bcc1, bcc2, bcc3, bcc4, bcc5, bcc6, bcc7, bcfz⟩
    clear bclt bcc0 bcc1 bcc2 bcc3 bcc4 bcc5 bcc6 bcc7 bcfz
    have bl_8 : Blk8 _ _ _ _ _ _ _ _ _ _ := ⟨bllt, blc0, blc1, blc2, blc3, blc4, blc5, blc6, blc7, blfz⟩
    clear bllt blc0 blc1 blc2 blc3 blc4 blc5 blc6 blc7 blfz
    refine (DP _).mono ?_
    rintro e w10 ⟨rfl, hb⟩
    have L10 := L8.trans (hb.mono L8.size)
    have bc_10 := bc_8.below hb
    clear bc_8
    have bl_10 := bl_8.below hb
    clear bl_8
    clear hb
    clear L8
    obtain ⟨bclt, bcc0, bcc1, bcc2, bcc3, bcc4, bcc5, bcc6, bcc7, bcfz⟩ := bc_10
    obtain ⟨bllt, blc0, blc1, blc2, blc3, blc4, blc5, blc6, blc7, blfz⟩ := bl_10
    go_wp2_with fail
    have bc_10 : Blk8 _ _ _ _ _ _ _ _ _ _ := ⟨bclt, bcc0, bcc1, bcc2, bcc3, bcc4, bcc5, bcc6, bcc7, bcfz⟩
    clear bclt bcc0 bcc1 bcc2 bcc3 bcc4 bcc5 bcc6 bcc7 bcfz
    have bl_10 : Blk8 _ _ _ _ _ _ _ _ _ _ := ⟨bllt, blc0, blc1, blc2, blc3, blc4, blc5, blc6, blc7, blfz⟩
    clear bllt blc0 blc1 blc2 blc3 blc4 blc5 blc6 blc7 blfz
    refine (DR _).mono ?_
    rintro e w' ⟨rfl, rfl⟩
    obtain ⟨bclt, bcc0, bcc1, bcc2, bcc3, bcc4, bcc5, bcc6, bcc7, bcfz⟩ := bc_10
    obtain ⟨bllt, blc0, blc1, blc2, blc3, blc4, blc5, blc6, blc7, blfz⟩ := bl_10
    go_wp2_with fail
    have bc_10 : Blk8 _ _ _ _ _ _ _ _ _ _ := ⟨bclt, bcc0, bcc1, bcc2, bcc3, bcc4, bcc5, bcc6, bcc7, bcfz⟩
    clear bclt bcc0 bcc1 bcc2 bcc3 bcc4 bcc5 bcc6 bcc7 bcfz
    have bl_10 : Blk8 _ _ _ _ _ _ _ _ _ _ := ⟨bllt, blc0, blc1, blc2, blc3, blc4, blc5, blc6, blc7, blfz⟩
    clear bllt blc0 blc1 blc2 blc3 blc4 blc5 blc6 blc7 blfz
    refine (DP _).mono ?_
    rintro e w12 ⟨rfl, hb⟩
    have L12 := L10.trans (hb.mono L10.size)
    have bc_12 := bc_10.below hb
    clear bc_10
    have bl_12 := bl_10.below hb
    clear bl_10
    clear hb
    clear L10
    obtain ⟨bclt, bcc0, bcc1, bcc2, bcc3, bcc4, bcc5, bcc6, bcc7, bcfz⟩ := bc_12
    obtain ⟨bllt, blc0, blc1, blc2, blc3, blc4, blc5, blc6, blc7, blfz⟩ := bl_12
    go_wp2_with fail
    have bc_12 : Blk8 _ _ _ _ _ _ _ _ _ _ := ⟨bclt, bcc0, bcc1, bcc2, bcc3, bcc4, bcc5, bcc6, bcc7, bcfz⟩
    clear bclt bcc0 bcc1 bcc2 bcc3 bcc4 bcc5 bcc6 bcc7 bcfz
    have bl_12 : Blk8 _ _ _ _ _ _ _ _ _ _ := ⟨bllt, blc0, blc1, blc2, blc3, blc4, blc5, blc6, blc7, blfz⟩
    clear bllt blc0 blc1 blc2 blc3 blc4 blc5 blc6 blc7 blfz
    go_ret
    exact ⟨rfl, L12⟩
  · go_enter Try.func4, Try.ntmps4
    have L0 : Below w.heap.size w w := Below.refl _ _
    go_wp2_with fail
    refine (wakes_any _).mono ?_
    rintro e w1 ⟨rfl, hb⟩
    have L1 := L0.trans (hb.mono L0.size)
    clear hb
    clear L0
    go_wp2_with fail
    refine (yrR_yes y hy hy2 _).mono ?_
    rintro e w' ⟨rfl, rfl⟩
    go_wp2_with fail
    refine (leapR y _ HB.out _).mono ?_
    rintro e w' ⟨rfl, rfl⟩
    go_wp2_with fail
    refine (H1 _).mono ?_
    rintro e w4 ⟨rfl, hb⟩
    have L4 := L1.trans (hb.mono L1.size)
    clear hb
    clear L1
    go_wp2_with fail
    have L5 : Below w.heap.size w (w4.alloc (.cells #[.int .i64 0, .int .i64 0, .int .i64 0, .int .i64 0, .int .i64 0, .int .i64 0, .int .i64 0, .int .i64 0] 24)) := L4.alloc L4.size _
    have bc_5 := Blk8.new w4 (.int .i64 0) (.int .i64 0) (.int .i64 0) (.int .i64 0) (.int .i64 0) (.int .i64 0) (.int .i64 0) (.int .i64 0) 24
    clear L4
    refine (DR _).mono ?_
    rintro e w' ⟨rfl, rfl⟩
    obtain ⟨bclt, bcc0, bcc1, bcc2, bcc3, bcc4, bcc5, bcc6, bcc7, bcfz⟩ := bc_5
    go_wp2_with fail
    have bc_5 : Blk8 _ _ _ _ _ _ _ _ _ _ := ⟨bclt, bcc0, bcc1, bcc2, bcc3, bcc4, bcc5, bcc6, bcc7, bcfz⟩
    clear bclt bcc0 bcc1 bcc2 bcc3 bcc4 bcc5 bcc6 bcc7 bcfz
    refine (H2 _).mono ?_
    rintro e w7 ⟨rfl, hb⟩
    have L7 := L5.trans (hb.mono L5.size)
    have bc_7 := bc_5.below hb
    clear bc_5
    clear hb
    clear L5
    obtain ⟨bclt, bcc0, bcc1, bcc2, bcc3, bcc4, bcc5, bcc6, bcc7, bcfz⟩ := bc_7
    go_wp2_with fail
    have bc_7 : Blk8 _ _ _ _ _ _ _ _ _ _ := ⟨bclt, bcc0, bcc1, bcc2, bcc3, bcc4, bcc5, bcc6, bcc7, bcfz⟩
    clear bclt bcc0 bcc1 bcc2 bcc3 bcc4 bcc5 bcc6 bcc7 bcfz
    have L8 : Below w.heap.size w (w7.alloc (.cells #[.int .i64 0, .int .i64 0, .int .i64 0, .int .i64 0, .int .i64 0, .int .i64 0, .int .i64 0, .int .i64 0] 24)) := L7.alloc L7.size _
    have bc_8 := bc_7.alloc #[.int .i64 0, .int .i64 0, .int .i64 0, .int .i64 0, .int .i64 0, .int .i64 0, .int .i64 0, .int .i64 0] 24
    clear bc_7
    have bl_8 := Blk8.new w7 (.int .i64 0) (.int .i64 0) (.int .i64 0) (.int .i64 0) (.int .i64 0) (.int .i64 0) (.int .i64 0) (.int .i64 0) 24
    clear L7
    refine (LeapP_yes y _ HB.out hy hy2 _).mono ?_
    rintro e w' ⟨rfl, rfl⟩
    obtain ⟨bclt, bcc0, bcc1, bcc2, bcc3, bcc4, bcc5, bcc6, bcc7, bcfz⟩ := bc_8
    obtain ⟨bllt, blc0, blc1, blc2, blc3, blc4, blc5, blc6, blc7, blfz⟩ := bl_8
    go_wp2_with fail
    have bc_8 : Blk8 _ _ _ _ _ _ _ _ _ _ := ⟨bclt, bcc0, bcc1, bcc2, bcc3, bcc4, bcc5, bcc6, bcc7, bcfz⟩
    clear bclt bcc0 bcc1 bcc2 bcc3 bcc4 bcc5 bcc6 bcc7 bcfz
    have bl_8 : Blk8 _ _ _ _ _ _ _ _ _ _ := ⟨bllt, blc0, blc1, blc2, blc3, blc4, blc5, blc6, blc7, blfz⟩
    clear bllt blc0 blc1 blc2 blc3 blc4 blc5 blc6 blc7 blfz
    refine (DP _).mono ?_
    rintro e w10 ⟨rfl, hb⟩
    have L10 := L8.trans (hb.mono L8.size)
    have bc_10 := bc_8.below hb
    clear bc_8
    have bl_10 := bl_8.below hb
    clear bl_8
    clear hb
    clear L8
    obtain ⟨bclt, bcc0, bcc1, bcc2, bcc3, bcc4, bcc5, bcc6, bcc7, bcfz⟩ := bc_10
    obtain ⟨bllt, blc0, blc1, blc2, blc3, blc4, blc5, blc6, blc7, blfz⟩ := bl_10
    go_wp2_with fail
    have bc_10 : Blk8 _ _ _ _ _ _ _ _ _ _ := ⟨bclt, bcc0, bcc1, bcc2, bcc3, bcc4, bcc5, bcc6, bcc7, bcfz⟩
    clear bclt bcc0 bcc1 bcc2 bcc3 bcc4 bcc5 bcc6 bcc7 bcfz
    have bl_10 : Blk8 _ _ _ _ _ _ _ _ _ _ := ⟨bllt, blc0, blc1, blc2, blc3, blc4, blc5, blc6, blc7, blfz⟩
    clear bllt blc0 blc1 blc2 blc3 blc4 blc5 blc6 blc7 blfz
    refine (DR _).mono ?_
    rintro e w' ⟨rfl, rfl⟩
    obtain ⟨bclt, bcc0, bcc1, bcc2, bcc3, bcc4, bcc5, bcc6, bcc7, bcfz⟩ := bc_10
    obtain ⟨bllt, blc0, blc1, blc2, blc3, blc4, blc5, blc6, blc7, blfz⟩ := bl_10
    go_wp2_with fail
    have bc_10 : Blk8 _ _ _ _ _ _ _ _ _ _ := ⟨bclt, bcc0, bcc1, bcc2, bcc3, bcc4, bcc5, bcc6, bcc7, bcfz⟩
    clear bclt bcc0 bcc1 bcc2 bcc3 bcc4 bcc5 bcc6 bcc7 bcfz
    have bl_10 : Blk8 _ _ _ _ _ _ _ _ _ _ := ⟨bllt, blc0, blc1, blc2, blc3, blc4, blc5, blc6, blc7, blfz⟩
    clear bllt blc0 blc1 blc2 blc3 blc4 blc5 blc6 blc7 blfz
    refine (DP _).mono ?_
    rintro e w12 ⟨rfl, hb⟩
    have L12 := L10.trans (hb.mono L10.size)
    have bc_12 := bc_10.below hb
    clear bc_10
    have bl_12 := bl_10.below hb
    clear bl_10
    clear hb
    clear L10
    obtain ⟨bclt, bcc0, bcc1, bcc2, bcc3, bcc4, bcc5, bcc6, bcc7, bcfz⟩ := bc_12
    obtain ⟨bllt, blc0, blc1, blc2, blc3, blc4, blc5, blc6, blc7, blfz⟩ := bl_12
    go_wp2_with fail
    have bc_12 : Blk8 _ _ _ _ _ _ _ _ _ _ := ⟨bclt, bcc0, bcc1, bcc2, bcc3, bcc4, bcc5, bcc6, bcc7, bcfz⟩
    clear bclt bcc0 bcc1 bcc2 bcc3 bcc4 bcc5 bcc6 bcc7 bcfz
    have bl_12 : Blk8 _ _ _ _ _ _ _ _ _ _ := ⟨bllt, blc0, blc1, blc2, blc3, blc4, blc5, blc6, blc7, blfz⟩
    clear bllt blc0 blc1 blc2 blc3 blc4 blc5 blc6 blc7 blfz
    go_ret
    exact ⟨rfl, L12⟩
theorem CivilYears_year (y m : Int) (hy : ¬ (-9999 ≤ y ∧ y ≤ 9999)) (hD : Cal.days y m = 0) (w : World) :
    Calls Try.prog 4 #[.int .i64 y, .int .i64 m] w fun e w' => e = .returned (.bool true) ∧ Below w.heap.size w w' := by
  have HY := Lib.hid hy
  clear hy
  have DR := dayR y m
  have DP := dayP y m
  have H1 := Date_no y m 1 (by rw [hD]; omega)
  have H2 := Date_no y m 0 (by omega)
  rw [hD] at DR DP
  clear hD
  unfold civ0 at H1 H2
  go_enter Try.func4, Try.ntmps4
  have L0 : Below w.heap.size w w := Below.refl _ _
  go_wp2_with fail
  refine (wakes_any _).mono ?_
  rintro e w1 ⟨rfl, hb⟩
  have L1 := L0.trans (hb.mono L0.size)
  clear hb
  clear L0
  go_wp2_with fail
  refine (yrR_no y HY.out _).mono ?_
  rintro e w' ⟨rfl, rfl⟩
  go_wp2_with fail
  refine (H1 _).mono ?_
  rintro e w3 ⟨rfl, hb⟩
  have L3 := L1.trans (hb.mono L1.size)
  clear hb
  clear L1
  go_wp2_with fail
  have L4 : Below w.heap.size w (w3.alloc (.cells #[.int .i64 0, .int .i64 0, .int .i64 0, .int .i64 0, .int .i64 0, .int .i64 0, .int .i64 0, .int .i64 0] 24)) := L3.alloc L3.size _
  have bc_4 := Blk8.new w3 (.int .i64 0) (.int .i64 0) (.int .i64 0) (.int .i64 0) (.int .i64 0) (.int .i64 0) (.int .i64 0) (.int .i64 0) 24
  clear L3
  refine (DR _).mono ?_
  rintro e w' ⟨rfl, rfl⟩
  obtain ⟨bclt, bcc0, bcc1, bcc2, bcc3, bcc4, bcc5, bcc6, bcc7, bcfz⟩ := bc_4
  go_wp2_with fail
  have bc_4 : Blk8 _ _ _ _ _ _ _ _ _ _ := ⟨bclt, bcc0, bcc1, bcc2, bcc3, bcc4, bcc5, bcc6, bcc7, bcfz⟩
  clear bclt bcc0 bcc1 bcc2 bcc3 bcc4 bcc5 bcc6 bcc7 bcfz
  refine (H2 _).mono ?_
  rintro e w6 ⟨rfl, hb⟩
  have L6 := L4.trans (hb.mono L4.size)
  have bc_6 := bc_4.below hb
  clear bc_4
  clear hb
  clear L4
  obtain ⟨bclt, bcc0, bcc1, bcc2, bcc3, bcc4, bcc5, bcc6, bcc7, bcfz⟩ := bc_6
  go_wp2_with fail
  have bc_6 : Blk8 _ _ _ _ _ _ _ _ _ _ := ⟨bclt, bcc0, bcc1, bcc2, bcc3, bcc4, bcc5, bcc6, bcc7, bcfz⟩
  clear bclt bcc0 bcc1 bcc2 bcc3 bcc4 bcc5 bcc6 bcc7 bcfz
  have L7 : Below w.heap.size w (w6.alloc (.cells #[.int .i64 0, .int .i64 0, .int .i64 0, .int .i64 0, .int .i64 0, .int .i64 0, .int .i64 0, .int .i64 0] 24)) := L6.alloc L6.size _
  have bc_7 := bc_6.alloc #[.int .i64 0, .int .i64 0, .int .i64 0, .int .i64 0, .int .i64 0, .int .i64 0, .int .i64 0, .int .i64 0] 24
  clear bc_6
  have bl_7 := Blk8.new w6 (.int .i64 0) (.int .i64 0) (.int .i64 0) (.int .i64 0) (.int .i64 0) (.int .i64 0) (.int .i64 0) (.int .i64 0) 24
  clear L6
  refine (LeapP_no y HY.out _).mono ?_
  rintro e w' ⟨rfl, rfl⟩
  obtain ⟨bclt, bcc0, bcc1, bcc2, bcc3, bcc4, bcc5, bcc6, bcc7, bcfz⟩ := bc_7
  obtain ⟨bllt, blc0, blc1, blc2, blc3, blc4, blc5, blc6, blc7, blfz⟩ := bl_7
  go_wp2_with fail
  have bc_7 : Blk8 _ _ _ _ _ _ _ _ _ _ := ⟨bclt, bcc0, bcc1, bcc2, bcc3, bcc4, bcc5, bcc6, bcc7, bcfz⟩
  clear bclt bcc0 bcc1 bcc2 bcc3 bcc4 bcc5 bcc6 bcc7 bcfz
  have bl_7 : Blk8 _ _ _ _ _ _ _ _ _ _ := ⟨bllt, blc0, blc1, blc2, blc3, blc4, blc5, blc6, blc7, blfz⟩
  clear bllt blc0 blc1 blc2 blc3 blc4 blc5 blc6 blc7 blfz
  refine (DP _).mono ?_
  rintro e w9 ⟨rfl, hb⟩
  have L9 := L7.trans (hb.mono L7.size)
  have bc_9 := bc_7.below hb
  clear bc_7
  have bl_9 := bl_7.below hb
  clear bl_7
  clear hb
  clear L7
  obtain ⟨bclt, bcc0, bcc1, bcc2, bcc3, bcc4, bcc5, bcc6, bcc7, bcfz⟩ := bc_9
  obtain ⟨bllt, blc0, blc1, blc2, blc3, blc4, blc5, blc6, blc7, blfz⟩ := bl_9
  go_wp2_with fail
  have bc_9 : Blk8 _ _ _ _ _ _ _ _ _ _ := ⟨bclt, bcc0, bcc1, bcc2, bcc3, bcc4, bcc5, bcc6, bcc7, bcfz⟩
  clear bclt bcc0 bcc1 bcc2 bcc3 bcc4 bcc5 bcc6 bcc7 bcfz
  have bl_9 : Blk8 _ _ _ _ _ _ _ _ _ _ := ⟨bllt, blc0, blc1, blc2, blc3, blc4, blc5, blc6, blc7, blfz⟩
  clear bllt blc0 blc1 blc2 blc3 blc4 blc5 blc6 blc7 blfz
  refine (DR _).mono ?_
  rintro e w' ⟨rfl, rfl⟩
  obtain ⟨bclt, bcc0, bcc1, bcc2, bcc3, bcc4, bcc5, bcc6, bcc7, bcfz⟩ := bc_9
  obtain ⟨bllt, blc0, blc1, blc2, blc3, blc4, blc5, blc6, blc7, blfz⟩ := bl_9
  go_wp2_with fail
  have bc_9 : Blk8 _ _ _ _ _ _ _ _ _ _ := ⟨bclt, bcc0, bcc1, bcc2, bcc3, bcc4, bcc5, bcc6, bcc7, bcfz⟩
  clear bclt bcc0 bcc1 bcc2 bcc3 bcc4 bcc5 bcc6 bcc7 bcfz
  have bl_9 : Blk8 _ _ _ _ _ _ _ _ _ _ := ⟨bllt, blc0, blc1, blc2, blc3, blc4, blc5, blc6, blc7, blfz⟩
  clear bllt blc0 blc1 blc2 blc3 blc4 blc5 blc6 blc7 blfz
  refine (DP _).mono ?_
  rintro e w11 ⟨rfl, hb⟩
  have L11 := L9.trans (hb.mono L9.size)
  have bc_11 := bc_9.below hb
  clear bc_9
  have bl_11 := bl_9.below hb
  clear bl_9
  clear hb
  clear L9
  obtain ⟨bclt, bcc0, bcc1, bcc2, bcc3, bcc4, bcc5, bcc6, bcc7, bcfz⟩ := bc_11
  obtain ⟨bllt, blc0, blc1, blc2, blc3, blc4, blc5, blc6, blc7, blfz⟩ := bl_11
  go_wp2_with fail
  have bc_11 : Blk8 _ _ _ _ _ _ _ _ _ _ := ⟨bclt, bcc0, bcc1, bcc2, bcc3, bcc4, bcc5, bcc6, bcc7, bcfz⟩
  clear bclt bcc0 bcc1 bcc2 bcc3 bcc4 bcc5 bcc6 bcc7 bcfz
  have bl_11 : Blk8 _ _ _ _ _ _ _ _ _ _ := ⟨bllt, blc0, blc1, blc2, blc3, blc4, blc5, blc6, blc7, blfz⟩
  clear bllt blc0 blc1 blc2 blc3 blc4 blc5 blc6 blc7 blfz
  go_ret
  exact ⟨rfl, L11⟩
theorem CivilYears_any (y m : Int) (w : World) :
    Calls Try.prog 4 #[.int .i64 y, .int .i64 m] w fun e w' => e = .returned (.bool true) ∧ Below w.heap.size w w' := by
  by_cases hy : -9999 ≤ y ∧ y ≤ 9999
  · by_cases hm : 1 ≤ m ∧ m ≤ 12
    · exact CivilYears_valid y m _ rfl hy.1 hy.2 hm.1 hm.2 w
    · exact CivilYears_month y m _ rfl hy.1 hy.2 (if_neg (by omega)) w
  · exact CivilYears_year y m hy (if_neg (by omega)) w
end Go.Proofs.Ytafoodfbjebdcaa
