/-
  CivilWeeks' walk: the law returns true for every civil and numbers. Conditions: each number fits its kind.
-/
import Derived.Test.YtafoodfbjebdcaaR
import Derived.Test.YtafoodfbjebdcaaM
import Derived.WalkKit
import Derived.ProofKit
import Derived.OpenShut
import Derived.Deep.QuietTactic
import Derived.BigQuiet
import Derived.Lib.Hide
import Derived.WalkLawsBesides
import Derived.Lib.QuietBelow
namespace Go.Proofs.Ytafoodfbjebdcaa
open Go.ChangeShapes Go.WideShapes Go.ChangeAt Go.RowKit
set_option maxHeartbeats 1000000 in
theorem CivilWeeks_no_bad (y mo d h mi s wd yd f l : Int) (hy : ¬ (-9999 ≤ y ∧ y ≤ 9999)) (hr : ¬ Rt y mo d h mi s wd yd) (_b0 : -9223372036854775808 ≤ y) (_b0' : y ≤ 9223372036854775807) (w : World) :
    Calls Try.prog 9 #[CV y mo d h mi s wd yd, .int .i64 f, .int .i64 l] w fun e w' => e = .returned (.bool true) ∧ Below w.heap.size w w' := by
  have HE := Era_no y mo d h mi s wd yd hy
  have HW := Week_bad y mo d h mi s wd yd f l hr
  have HY0 := Lib.hid hy
  have HY := yrR_no y HY0.out
  clear hy
  have HR := RightNo y mo d h mi s wd yd hr
  clear hr
  unfold CV at *
  go_enter Try.func9, Try.ntmps9
  have L0 : Below w.heap.size w w := Below.refl _ _
  go_wp2_with fail
  have L1 : Below w.heap.size w (w.alloc (.cells #[.int .i64 y, .int .i64 mo, .int .i64 d, .int .i64 h, .int .i64 mi, .int .i64 s, .int .i64 wd, .int .i64 yd] 24)) := L0.alloc L0.size _
  have bp_1 := Blk8.new w (.int .i64 y) (.int .i64 mo) (.int .i64 d) (.int .i64 h) (.int .i64 mi) (.int .i64 s) (.int .i64 wd) (.int .i64 yd) 24
  clear L0
  refine (wakes_any _).mono ?_
  rintro e w2 ⟨rfl, hb⟩
  have L2 := L1.trans (hb.mono L1.size)
  have bp_2 := bp_1.below hb
  clear bp_1
  clear hb
  clear L1
  obtain ⟨bplt, bpc0, bpc1, bpc2, bpc3, bpc4, bpc5, bpc6, bpc7, bpfz⟩ := bp_2
  go_wp2_with fail
  have bp_2 : Blk8 _ _ _ _ _ _ _ _ _ _ := ⟨bplt, bpc0, bpc1, bpc2, bpc3, bpc4, bpc5, bpc6, bpc7, bpfz⟩
  clear bplt bpc0 bpc1 bpc2 bpc3 bpc4 bpc5 bpc6 bpc7 bpfz
  refine (HE _).mono ?_
  rintro e w3 ⟨rfl, hb⟩
  have L3 := L2.trans (hb.mono L2.size)
  have bp_3 := bp_2.below hb
  clear bp_2
  clear hb
  clear L2
  obtain ⟨bplt, bpc0, bpc1, bpc2, bpc3, bpc4, bpc5, bpc6, bpc7, bpfz⟩ := bp_3
  go_wp2_with fail
  have bp_3 : Blk8 _ _ _ _ _ _ _ _ _ _ := ⟨bplt, bpc0, bpc1, bpc2, bpc3, bpc4, bpc5, bpc6, bpc7, bpfz⟩
  clear bplt bpc0 bpc1 bpc2 bpc3 bpc4 bpc5 bpc6 bpc7 bpfz
  refine (HY _).mono ?_
  rintro e w' ⟨rfl, rfl⟩
  obtain ⟨bplt, bpc0, bpc1, bpc2, bpc3, bpc4, bpc5, bpc6, bpc7, bpfz⟩ := bp_3
  go_wp2_with fail
  have bp_3 : Blk8 _ _ _ _ _ _ _ _ _ _ := ⟨bplt, bpc0, bpc1, bpc2, bpc3, bpc4, bpc5, bpc6, bpc7, bpfz⟩
  clear bplt bpc0 bpc1 bpc2 bpc3 bpc4 bpc5 bpc6 bpc7 bpfz
  refine (HW _).mono ?_
  rintro e w5 ⟨rfl, hb⟩
  have L5 := L3.trans (hb.mono L3.size)
  have bp_5 := bp_3.below hb
  clear bp_3
  clear hb
  clear L3
  obtain ⟨bplt, bpc0, bpc1, bpc2, bpc3, bpc4, bpc5, bpc6, bpc7, bpfz⟩ := bp_5
  go_wp2_with fail
  have bp_5 : Blk8 _ _ _ _ _ _ _ _ _ _ := ⟨bplt, bpc0, bpc1, bpc2, bpc3, bpc4, bpc5, bpc6, bpc7, bpfz⟩
  clear bplt bpc0 bpc1 bpc2 bpc3 bpc4 bpc5 bpc6 bpc7 bpfz
  refine (HR _).mono ?_
  rintro e w6 ⟨rfl, hb⟩
  have L6 := L5.trans (hb.mono L5.size)
  have bp_6 := bp_5.below hb
  clear bp_5
  clear hb
  clear L5
  obtain ⟨bplt, bpc0, bpc1, bpc2, bpc3, bpc4, bpc5, bpc6, bpc7, bpfz⟩ := bp_6
  go_wp2_with fail
  have bp_6 : Blk8 _ _ _ _ _ _ _ _ _ _ := ⟨bplt, bpc0, bpc1, bpc2, bpc3, bpc4, bpc5, bpc6, bpc7, bpfz⟩
  clear bplt bpc0 bpc1 bpc2 bpc3 bpc4 bpc5 bpc6 bpc7 bpfz
  go_ret
  exact ⟨rfl, L6⟩
set_option maxHeartbeats 1000000 in
theorem CivilWeeks_pos_bad (y mo d h mi s wd yd f l : Int) (hy : -9999 ≤ y) (hy2 : y ≤ 9999) (hp : 0 < y) (hr : ¬ Rt y mo d h mi s wd yd) (_b0 : -9223372036854775808 ≤ y) (_b0' : y ≤ 9223372036854775807) (w : World) :
    Calls Try.prog 9 #[CV y mo d h mi s wd yd, .int .i64 f, .int .i64 l] w fun e w' => e = .returned (.bool true) ∧ Below w.heap.size w w' := by
  have HE := Era_one y mo d h mi s wd yd hy hy2 hp
  have HW := Week_bad y mo d h mi s wd yd f l hr
  have HY := yrR_yes y hy hy2
  have HR := RightNo y mo d h mi s wd yd hr
  clear hr
  unfold CV at *
  go_enter Try.func9, Try.ntmps9
  have L0 : Below w.heap.size w w := Below.refl _ _
  go_wp2_with fail
  have L1 : Below w.heap.size w (w.alloc (.cells #[.int .i64 y, .int .i64 mo, .int .i64 d, .int .i64 h, .int .i64 mi, .int .i64 s, .int .i64 wd, .int .i64 yd] 24)) := L0.alloc L0.size _
  have bp_1 := Blk8.new w (.int .i64 y) (.int .i64 mo) (.int .i64 d) (.int .i64 h) (.int .i64 mi) (.int .i64 s) (.int .i64 wd) (.int .i64 yd) 24
  clear L0
  refine (wakes_any _).mono ?_
  rintro e w2 ⟨rfl, hb⟩
  have L2 := L1.trans (hb.mono L1.size)
  have bp_2 := bp_1.below hb
  clear bp_1
  clear hb
  clear L1
  obtain ⟨bplt, bpc0, bpc1, bpc2, bpc3, bpc4, bpc5, bpc6, bpc7, bpfz⟩ := bp_2
  go_wp2_with fail
  have bp_2 : Blk8 _ _ _ _ _ _ _ _ _ _ := ⟨bplt, bpc0, bpc1, bpc2, bpc3, bpc4, bpc5, bpc6, bpc7, bpfz⟩
  clear bplt bpc0 bpc1 bpc2 bpc3 bpc4 bpc5 bpc6 bpc7 bpfz
  refine (HE _).mono ?_
  rintro e w3 ⟨rfl, hb⟩
  have L3 := L2.trans (hb.mono L2.size)
  have bp_3 := bp_2.below hb
  clear bp_2
  clear hb
  clear L2
  obtain ⟨bplt, bpc0, bpc1, bpc2, bpc3, bpc4, bpc5, bpc6, bpc7, bpfz⟩ := bp_3
  go_wp2_with fail
  have bp_3 : Blk8 _ _ _ _ _ _ _ _ _ _ := ⟨bplt, bpc0, bpc1, bpc2, bpc3, bpc4, bpc5, bpc6, bpc7, bpfz⟩
  clear bplt bpc0 bpc1 bpc2 bpc3 bpc4 bpc5 bpc6 bpc7 bpfz
  refine (HY _).mono ?_
  rintro e w' ⟨rfl, rfl⟩
  obtain ⟨bplt, bpc0, bpc1, bpc2, bpc3, bpc4, bpc5, bpc6, bpc7, bpfz⟩ := bp_3
  go_wp2_with fail
  have bp_3 : Blk8 _ _ _ _ _ _ _ _ _ _ := ⟨bplt, bpc0, bpc1, bpc2, bpc3, bpc4, bpc5, bpc6, bpc7, bpfz⟩
  clear bplt bpc0 bpc1 bpc2 bpc3 bpc4 bpc5 bpc6 bpc7 bpfz
  refine (HW _).mono ?_
  rintro e w5 ⟨rfl, hb⟩
  have L5 := L3.trans (hb.mono L3.size)
  have bp_5 := bp_3.below hb
  clear bp_3
  clear hb
  clear L3
  obtain ⟨bplt, bpc0, bpc1, bpc2, bpc3, bpc4, bpc5, bpc6, bpc7, bpfz⟩ := bp_5
  go_wp2_with fail
  have bp_5 : Blk8 _ _ _ _ _ _ _ _ _ _ := ⟨bplt, bpc0, bpc1, bpc2, bpc3, bpc4, bpc5, bpc6, bpc7, bpfz⟩
  clear bplt bpc0 bpc1 bpc2 bpc3 bpc4 bpc5 bpc6 bpc7 bpfz
  refine (HR _).mono ?_
  rintro e w6 ⟨rfl, hb⟩
  have L6 := L5.trans (hb.mono L5.size)
  have bp_6 := bp_5.below hb
  clear bp_5
  clear hb
  clear L5
  obtain ⟨bplt, bpc0, bpc1, bpc2, bpc3, bpc4, bpc5, bpc6, bpc7, bpfz⟩ := bp_6
  go_wp2_with fail
  have bp_6 : Blk8 _ _ _ _ _ _ _ _ _ _ := ⟨bplt, bpc0, bpc1, bpc2, bpc3, bpc4, bpc5, bpc6, bpc7, bpfz⟩
  clear bplt bpc0 bpc1 bpc2 bpc3 bpc4 bpc5 bpc6 bpc7 bpfz
  go_ret
  exact ⟨rfl, L6⟩
set_option maxHeartbeats 1000000 in
theorem CivilWeeks_pos_f1 (y mo d h mi s wd yd f l : Int) (hy : -9999 ≤ y) (hy2 : y ≤ 9999) (hp : 0 < y) (hr : Rt y mo d h mi s wd yd) (t0 : f < 0) (_b0 : -9223372036854775808 ≤ y) (_b0' : y ≤ 9223372036854775807) (w : World) :
    Calls Try.prog 9 #[CV y mo d h mi s wd yd, .int .i64 f, .int .i64 l] w fun e w' => e = .returned (.bool true) ∧ Below w.heap.size w w' := by
  have HE := Era_one y mo d h mi s wd yd hy hy2 hp
  have HW := Week_f1 y mo d h mi s wd yd f l hr t0
  have HY := yrR_yes y hy hy2
  have HR := RightYes y mo d h mi s wd yd hr
  clear hr
  unfold CV at *
  go_enter Try.func9, Try.ntmps9
  have L0 : Below w.heap.size w w := Below.refl _ _
  go_wp2_with fail
  have L1 : Below w.heap.size w (w.alloc (.cells #[.int .i64 y, .int .i64 mo, .int .i64 d, .int .i64 h, .int .i64 mi, .int .i64 s, .int .i64 wd, .int .i64 yd] 24)) := L0.alloc L0.size _
  have bp_1 := Blk8.new w (.int .i64 y) (.int .i64 mo) (.int .i64 d) (.int .i64 h) (.int .i64 mi) (.int .i64 s) (.int .i64 wd) (.int .i64 yd) 24
  clear L0
  refine (wakes_any _).mono ?_
  rintro e w2 ⟨rfl, hb⟩
  have L2 := L1.trans (hb.mono L1.size)
  have bp_2 := bp_1.below hb
  clear bp_1
  clear hb
  clear L1
  obtain ⟨bplt, bpc0, bpc1, bpc2, bpc3, bpc4, bpc5, bpc6, bpc7, bpfz⟩ := bp_2
  go_wp2_with fail
  have bp_2 : Blk8 _ _ _ _ _ _ _ _ _ _ := ⟨bplt, bpc0, bpc1, bpc2, bpc3, bpc4, bpc5, bpc6, bpc7, bpfz⟩
  clear bplt bpc0 bpc1 bpc2 bpc3 bpc4 bpc5 bpc6 bpc7 bpfz
  refine (HE _).mono ?_
  rintro e w3 ⟨rfl, hb⟩
  have L3 := L2.trans (hb.mono L2.size)
  have bp_3 := bp_2.below hb
  clear bp_2
  clear hb
  clear L2
  obtain ⟨bplt, bpc0, bpc1, bpc2, bpc3, bpc4, bpc5, bpc6, bpc7, bpfz⟩ := bp_3
  go_wp2_with fail
  have bp_3 : Blk8 _ _ _ _ _ _ _ _ _ _ := ⟨bplt, bpc0, bpc1, bpc2, bpc3, bpc4, bpc5, bpc6, bpc7, bpfz⟩
  clear bplt bpc0 bpc1 bpc2 bpc3 bpc4 bpc5 bpc6 bpc7 bpfz
  refine (HY _).mono ?_
  rintro e w' ⟨rfl, rfl⟩
  obtain ⟨bplt, bpc0, bpc1, bpc2, bpc3, bpc4, bpc5, bpc6, bpc7, bpfz⟩ := bp_3
  go_wp2_with fail
  have bp_3 : Blk8 _ _ _ _ _ _ _ _ _ _ := ⟨bplt, bpc0, bpc1, bpc2, bpc3, bpc4, bpc5, bpc6, bpc7, bpfz⟩
  clear bplt bpc0 bpc1 bpc2 bpc3 bpc4 bpc5 bpc6 bpc7 bpfz
  refine (HW _).mono ?_
  rintro e w5 ⟨rfl, hb⟩
  have L5 := L3.trans (hb.mono L3.size)
  have bp_5 := bp_3.below hb
  clear bp_3
  clear hb
  clear L3
  obtain ⟨bplt, bpc0, bpc1, bpc2, bpc3, bpc4, bpc5, bpc6, bpc7, bpfz⟩ := bp_5
  go_wp2_with fail
  have bp_5 : Blk8 _ _ _ _ _ _ _ _ _ _ := ⟨bplt, bpc0, bpc1, bpc2, bpc3, bpc4, bpc5, bpc6, bpc7, bpfz⟩
  clear bplt bpc0 bpc1 bpc2 bpc3 bpc4 bpc5 bpc6 bpc7 bpfz
  refine (HR _).mono ?_
  rintro e w6 ⟨rfl, hb⟩
  have L6 := L5.trans (hb.mono L5.size)
  have bp_6 := bp_5.below hb
  clear bp_5
  clear hb
  clear L5
  obtain ⟨bplt, bpc0, bpc1, bpc2, bpc3, bpc4, bpc5, bpc6, bpc7, bpfz⟩ := bp_6
  go_wp2_with fail
  have bp_6 : Blk8 _ _ _ _ _ _ _ _ _ _ := ⟨bplt, bpc0, bpc1, bpc2, bpc3, bpc4, bpc5, bpc6, bpc7, bpfz⟩
  clear bplt bpc0 bpc1 bpc2 bpc3 bpc4 bpc5 bpc6 bpc7 bpfz
  go_ret
  exact ⟨rfl, L6⟩
set_option maxHeartbeats 1000000 in
theorem CivilWeeks_pos_f2 (y mo d h mi s wd yd f l : Int) (hy : -9999 ≤ y) (hy2 : y ≤ 9999) (hp : 0 < y) (hr : Rt y mo d h mi s wd yd) (t0 : ¬ f < 0) (t1 : 6 < f) (_b0 : -9223372036854775808 ≤ y) (_b0' : y ≤ 9223372036854775807) (w : World) :
    Calls Try.prog 9 #[CV y mo d h mi s wd yd, .int .i64 f, .int .i64 l] w fun e w' => e = .returned (.bool true) ∧ Below w.heap.size w w' := by
  have HE := Era_one y mo d h mi s wd yd hy hy2 hp
  have HW := Week_f2 y mo d h mi s wd yd f l hr t0 t1
  have HY := yrR_yes y hy hy2
  have HR := RightYes y mo d h mi s wd yd hr
  clear hr
  unfold CV at *
  go_enter Try.func9, Try.ntmps9
  have L0 : Below w.heap.size w w := Below.refl _ _
  go_wp2_with fail
  have L1 : Below w.heap.size w (w.alloc (.cells #[.int .i64 y, .int .i64 mo, .int .i64 d, .int .i64 h, .int .i64 mi, .int .i64 s, .int .i64 wd, .int .i64 yd] 24)) := L0.alloc L0.size _
  have bp_1 := Blk8.new w (.int .i64 y) (.int .i64 mo) (.int .i64 d) (.int .i64 h) (.int .i64 mi) (.int .i64 s) (.int .i64 wd) (.int .i64 yd) 24
  clear L0
  refine (wakes_any _).mono ?_
  rintro e w2 ⟨rfl, hb⟩
  have L2 := L1.trans (hb.mono L1.size)
  have bp_2 := bp_1.below hb
  clear bp_1
  clear hb
  clear L1
  obtain ⟨bplt, bpc0, bpc1, bpc2, bpc3, bpc4, bpc5, bpc6, bpc7, bpfz⟩ := bp_2
  go_wp2_with fail
  have bp_2 : Blk8 _ _ _ _ _ _ _ _ _ _ := ⟨bplt, bpc0, bpc1, bpc2, bpc3, bpc4, bpc5, bpc6, bpc7, bpfz⟩
  clear bplt bpc0 bpc1 bpc2 bpc3 bpc4 bpc5 bpc6 bpc7 bpfz
  refine (HE _).mono ?_
  rintro e w3 ⟨rfl, hb⟩
  have L3 := L2.trans (hb.mono L2.size)
  have bp_3 := bp_2.below hb
  clear bp_2
  clear hb
  clear L2
  obtain ⟨bplt, bpc0, bpc1, bpc2, bpc3, bpc4, bpc5, bpc6, bpc7, bpfz⟩ := bp_3
  go_wp2_with fail
  have bp_3 : Blk8 _ _ _ _ _ _ _ _ _ _ := ⟨bplt, bpc0, bpc1, bpc2, bpc3, bpc4, bpc5, bpc6, bpc7, bpfz⟩
  clear bplt bpc0 bpc1 bpc2 bpc3 bpc4 bpc5 bpc6 bpc7 bpfz
  refine (HY _).mono ?_
  rintro e w' ⟨rfl, rfl⟩
  obtain ⟨bplt, bpc0, bpc1, bpc2, bpc3, bpc4, bpc5, bpc6, bpc7, bpfz⟩ := bp_3
  go_wp2_with fail
  have bp_3 : Blk8 _ _ _ _ _ _ _ _ _ _ := ⟨bplt, bpc0, bpc1, bpc2, bpc3, bpc4, bpc5, bpc6, bpc7, bpfz⟩
  clear bplt bpc0 bpc1 bpc2 bpc3 bpc4 bpc5 bpc6 bpc7 bpfz
  refine (HW _).mono ?_
  rintro e w5 ⟨rfl, hb⟩
  have L5 := L3.trans (hb.mono L3.size)
  have bp_5 := bp_3.below hb
  clear bp_3
  clear hb
  clear L3
  obtain ⟨bplt, bpc0, bpc1, bpc2, bpc3, bpc4, bpc5, bpc6, bpc7, bpfz⟩ := bp_5
  go_wp2_with fail
  have bp_5 : Blk8 _ _ _ _ _ _ _ _ _ _ := ⟨bplt, bpc0, bpc1, bpc2, bpc3, bpc4, bpc5, bpc6, bpc7, bpfz⟩
  clear bplt bpc0 bpc1 bpc2 bpc3 bpc4 bpc5 bpc6 bpc7 bpfz
  refine (HR _).mono ?_
  rintro e w6 ⟨rfl, hb⟩
  have L6 := L5.trans (hb.mono L5.size)
  have bp_6 := bp_5.below hb
  clear bp_5
  clear hb
  clear L5
  obtain ⟨bplt, bpc0, bpc1, bpc2, bpc3, bpc4, bpc5, bpc6, bpc7, bpfz⟩ := bp_6
  go_wp2_with fail
  have bp_6 : Blk8 _ _ _ _ _ _ _ _ _ _ := ⟨bplt, bpc0, bpc1, bpc2, bpc3, bpc4, bpc5, bpc6, bpc7, bpfz⟩
  clear bplt bpc0 bpc1 bpc2 bpc3 bpc4 bpc5 bpc6 bpc7 bpfz
  go_ret
  exact ⟨rfl, L6⟩
set_option maxHeartbeats 1000000 in
theorem CivilWeeks_pos_l1 (y mo d h mi s wd yd f l : Int) (hy : -9999 ≤ y) (hy2 : y ≤ 9999) (hp : 0 < y) (hr : Rt y mo d h mi s wd yd) (t0 : ¬ f < 0) (t1 : ¬ 6 < f) (t2 : l < 1) (_b0 : -9223372036854775808 ≤ y) (_b0' : y ≤ 9223372036854775807) (w : World) :
    Calls Try.prog 9 #[CV y mo d h mi s wd yd, .int .i64 f, .int .i64 l] w fun e w' => e = .returned (.bool true) ∧ Below w.heap.size w w' := by
  have HE := Era_one y mo d h mi s wd yd hy hy2 hp
  have HW := Week_l1 y mo d h mi s wd yd f l hr t0 t1 t2
  have HY := yrR_yes y hy hy2
  have HR := RightYes y mo d h mi s wd yd hr
  clear hr
  unfold CV at *
  go_enter Try.func9, Try.ntmps9
  have L0 : Below w.heap.size w w := Below.refl _ _
  go_wp2_with fail
  have L1 : Below w.heap.size w (w.alloc (.cells #[.int .i64 y, .int .i64 mo, .int .i64 d, .int .i64 h, .int .i64 mi, .int .i64 s, .int .i64 wd, .int .i64 yd] 24)) := L0.alloc L0.size _
  have bp_1 := Blk8.new w (.int .i64 y) (.int .i64 mo) (.int .i64 d) (.int .i64 h) (.int .i64 mi) (.int .i64 s) (.int .i64 wd) (.int .i64 yd) 24
  clear L0
  refine (wakes_any _).mono ?_
  rintro e w2 ⟨rfl, hb⟩
  have L2 := L1.trans (hb.mono L1.size)
  have bp_2 := bp_1.below hb
  clear bp_1
  clear hb
  clear L1
  obtain ⟨bplt, bpc0, bpc1, bpc2, bpc3, bpc4, bpc5, bpc6, bpc7, bpfz⟩ := bp_2
  go_wp2_with fail
  have bp_2 : Blk8 _ _ _ _ _ _ _ _ _ _ := ⟨bplt, bpc0, bpc1, bpc2, bpc3, bpc4, bpc5, bpc6, bpc7, bpfz⟩
  clear bplt bpc0 bpc1 bpc2 bpc3 bpc4 bpc5 bpc6 bpc7 bpfz
  refine (HE _).mono ?_
  rintro e w3 ⟨rfl, hb⟩
  have L3 := L2.trans (hb.mono L2.size)
  have bp_3 := bp_2.below hb
  clear bp_2
  clear hb
  clear L2
  obtain ⟨bplt, bpc0, bpc1, bpc2, bpc3, bpc4, bpc5, bpc6, bpc7, bpfz⟩ := bp_3
  go_wp2_with fail
  have bp_3 : Blk8 _ _ _ _ _ _ _ _ _ _ := ⟨bplt, bpc0, bpc1, bpc2, bpc3, bpc4, bpc5, bpc6, bpc7, bpfz⟩
  clear bplt bpc0 bpc1 bpc2 bpc3 bpc4 bpc5 bpc6 bpc7 bpfz
  refine (HY _).mono ?_
  rintro e w' ⟨rfl, rfl⟩
  obtain ⟨bplt, bpc0, bpc1, bpc2, bpc3, bpc4, bpc5, bpc6, bpc7, bpfz⟩ := bp_3
  go_wp2_with fail
  have bp_3 : Blk8 _ _ _ _ _ _ _ _ _ _ := ⟨bplt, bpc0, bpc1, bpc2, bpc3, bpc4, bpc5, bpc6, bpc7, bpfz⟩
  clear bplt bpc0 bpc1 bpc2 bpc3 bpc4 bpc5 bpc6 bpc7 bpfz
  refine (HW _).mono ?_
  rintro e w5 ⟨rfl, hb⟩
  have L5 := L3.trans (hb.mono L3.size)
  have bp_5 := bp_3.below hb
  clear bp_3
  clear hb
  clear L3
  obtain ⟨bplt, bpc0, bpc1, bpc2, bpc3, bpc4, bpc5, bpc6, bpc7, bpfz⟩ := bp_5
  go_wp2_with fail
  have bp_5 : Blk8 _ _ _ _ _ _ _ _ _ _ := ⟨bplt, bpc0, bpc1, bpc2, bpc3, bpc4, bpc5, bpc6, bpc7, bpfz⟩
  clear bplt bpc0 bpc1 bpc2 bpc3 bpc4 bpc5 bpc6 bpc7 bpfz
  refine (HR _).mono ?_
  rintro e w6 ⟨rfl, hb⟩
  have L6 := L5.trans (hb.mono L5.size)
  have bp_6 := bp_5.below hb
  clear bp_5
  clear hb
  clear L5
  obtain ⟨bplt, bpc0, bpc1, bpc2, bpc3, bpc4, bpc5, bpc6, bpc7, bpfz⟩ := bp_6
  go_wp2_with fail
  have bp_6 : Blk8 _ _ _ _ _ _ _ _ _ _ := ⟨bplt, bpc0, bpc1, bpc2, bpc3, bpc4, bpc5, bpc6, bpc7, bpfz⟩
  clear bplt bpc0 bpc1 bpc2 bpc3 bpc4 bpc5 bpc6 bpc7 bpfz
  go_ret
  exact ⟨rfl, L6⟩
set_option maxHeartbeats 1000000 in
theorem CivilWeeks_pos_l2 (y mo d h mi s wd yd f l : Int) (hy : -9999 ≤ y) (hy2 : y ≤ 9999) (hp : 0 < y) (hr : Rt y mo d h mi s wd yd) (t0 : ¬ f < 0) (t1 : ¬ 6 < f) (t2 : ¬ l < 1) (t3 : 7 < l) (_b0 : -9223372036854775808 ≤ y) (_b0' : y ≤ 9223372036854775807) (w : World) :
    Calls Try.prog 9 #[CV y mo d h mi s wd yd, .int .i64 f, .int .i64 l] w fun e w' => e = .returned (.bool true) ∧ Below w.heap.size w w' := by
  have HE := Era_one y mo d h mi s wd yd hy hy2 hp
  have HW := Week_l2 y mo d h mi s wd yd f l hr t0 t1 t2 t3
  have HY := yrR_yes y hy hy2
  have HR := RightYes y mo d h mi s wd yd hr
  clear hr
  unfold CV at *
  go_enter Try.func9, Try.ntmps9
  have L0 : Below w.heap.size w w := Below.refl _ _
  go_wp2_with fail
  have L1 : Below w.heap.size w (w.alloc (.cells #[.int .i64 y, .int .i64 mo, .int .i64 d, .int .i64 h, .int .i64 mi, .int .i64 s, .int .i64 wd, .int .i64 yd] 24)) := L0.alloc L0.size _
  have bp_1 := Blk8.new w (.int .i64 y) (.int .i64 mo) (.int .i64 d) (.int .i64 h) (.int .i64 mi) (.int .i64 s) (.int .i64 wd) (.int .i64 yd) 24
  clear L0
  refine (wakes_any _).mono ?_
  rintro e w2 ⟨rfl, hb⟩
  have L2 := L1.trans (hb.mono L1.size)
  have bp_2 := bp_1.below hb
  clear bp_1
  clear hb
  clear L1
  obtain ⟨bplt, bpc0, bpc1, bpc2, bpc3, bpc4, bpc5, bpc6, bpc7, bpfz⟩ := bp_2
  go_wp2_with fail
  have bp_2 : Blk8 _ _ _ _ _ _ _ _ _ _ := ⟨bplt, bpc0, bpc1, bpc2, bpc3, bpc4, bpc5, bpc6, bpc7, bpfz⟩
  clear bplt bpc0 bpc1 bpc2 bpc3 bpc4 bpc5 bpc6 bpc7 bpfz
  refine (HE _).mono ?_
  rintro e w3 ⟨rfl, hb⟩
  have L3 := L2.trans (hb.mono L2.size)
  have bp_3 := bp_2.below hb
  clear bp_2
  clear hb
  clear L2
  obtain ⟨bplt, bpc0, bpc1, bpc2, bpc3, bpc4, bpc5, bpc6, bpc7, bpfz⟩ := bp_3
  go_wp2_with fail
  have bp_3 : Blk8 _ _ _ _ _ _ _ _ _ _ := ⟨bplt, bpc0, bpc1, bpc2, bpc3, bpc4, bpc5, bpc6, bpc7, bpfz⟩
  clear bplt bpc0 bpc1 bpc2 bpc3 bpc4 bpc5 bpc6 bpc7 bpfz
  refine (HY _).mono ?_
  rintro e w' ⟨rfl, rfl⟩
  obtain ⟨bplt, bpc0, bpc1, bpc2, bpc3, bpc4, bpc5, bpc6, bpc7, bpfz⟩ := bp_3
  go_wp2_with fail
  have bp_3 : Blk8 _ _ _ _ _ _ _ _ _ _ := ⟨bplt, bpc0, bpc1, bpc2, bpc3, bpc4, bpc5, bpc6, bpc7, bpfz⟩
  clear bplt bpc0 bpc1 bpc2 bpc3 bpc4 bpc5 bpc6 bpc7 bpfz
  refine (HW _).mono ?_
  rintro e w5 ⟨rfl, hb⟩
  have L5 := L3.trans (hb.mono L3.size)
  have bp_5 := bp_3.below hb
  clear bp_3
  clear hb
  clear L3
  obtain ⟨bplt, bpc0, bpc1, bpc2, bpc3, bpc4, bpc5, bpc6, bpc7, bpfz⟩ := bp_5
  go_wp2_with fail
  have bp_5 : Blk8 _ _ _ _ _ _ _ _ _ _ := ⟨bplt, bpc0, bpc1, bpc2, bpc3, bpc4, bpc5, bpc6, bpc7, bpfz⟩
  clear bplt bpc0 bpc1 bpc2 bpc3 bpc4 bpc5 bpc6 bpc7 bpfz
  refine (HR _).mono ?_
  rintro e w6 ⟨rfl, hb⟩
  have L6 := L5.trans (hb.mono L5.size)
  have bp_6 := bp_5.below hb
  clear bp_5
  clear hb
  clear L5
  obtain ⟨bplt, bpc0, bpc1, bpc2, bpc3, bpc4, bpc5, bpc6, bpc7, bpfz⟩ := bp_6
  go_wp2_with fail
  have bp_6 : Blk8 _ _ _ _ _ _ _ _ _ _ := ⟨bplt, bpc0, bpc1, bpc2, bpc3, bpc4, bpc5, bpc6, bpc7, bpfz⟩
  clear bplt bpc0 bpc1 bpc2 bpc3 bpc4 bpc5 bpc6 bpc7 bpfz
  go_ret
  exact ⟨rfl, L6⟩
set_option maxHeartbeats 1000000 in
theorem CivilWeeks_pos_ok (y mo d h mi s wd yd f l : Int) (hy : -9999 ≤ y) (hy2 : y ≤ 9999) (hp : 0 < y) (hr : Rt y mo d h mi s wd yd) (f0 : 0 ≤ f) (f6 : f ≤ 6) (l1 : 1 ≤ l) (l7 : l ≤ 7) (_b0 : -9223372036854775808 ≤ y) (_b0' : y ≤ 9223372036854775807) (w : World) :
    Calls Try.prog 9 #[CV y mo d h mi s wd yd, .int .i64 f, .int .i64 l] w fun e w' => e = .returned (.bool true) ∧ Below w.heap.size w w' := by
  have HE := Era_one y mo d h mi s wd yd hy hy2 hp
  have HW := Week_yes y mo d h mi s wd yd f l hr f0 f6 l1 l7
  have HY := yrR_yes y hy hy2
  have HR := RightYes y mo d h mi s wd yd hr
  have HF := refWeek y mo d h mi s wd yd f l hr f0 f6 l1 l7
  generalize CivT.wkY y (Cal.num y mo d) f l = U at *
  generalize CivT.wkW y (Cal.num y mo d) f l = V at *
  clear hr
  unfold CV at *
  go_enter Try.func9, Try.ntmps9
  have L0 : Below w.heap.size w w := Below.refl _ _
  go_wp2_with fail
  have L1 : Below w.heap.size w (w.alloc (.cells #[.int .i64 y, .int .i64 mo, .int .i64 d, .int .i64 h, .int .i64 mi, .int .i64 s, .int .i64 wd, .int .i64 yd] 24)) := L0.alloc L0.size _
  have bp_1 := Blk8.new w (.int .i64 y) (.int .i64 mo) (.int .i64 d) (.int .i64 h) (.int .i64 mi) (.int .i64 s) (.int .i64 wd) (.int .i64 yd) 24
  clear L0
  refine (wakes_any _).mono ?_
  rintro e w2 ⟨rfl, hb⟩
  have L2 := L1.trans (hb.mono L1.size)
  have bp_2 := bp_1.below hb
  clear bp_1
  clear hb
  clear L1
  obtain ⟨bplt, bpc0, bpc1, bpc2, bpc3, bpc4, bpc5, bpc6, bpc7, bpfz⟩ := bp_2
  go_wp2_with fail
  have bp_2 : Blk8 _ _ _ _ _ _ _ _ _ _ := ⟨bplt, bpc0, bpc1, bpc2, bpc3, bpc4, bpc5, bpc6, bpc7, bpfz⟩
  clear bplt bpc0 bpc1 bpc2 bpc3 bpc4 bpc5 bpc6 bpc7 bpfz
  refine (HE _).mono ?_
  rintro e w3 ⟨rfl, hb⟩
  have L3 := L2.trans (hb.mono L2.size)
  have bp_3 := bp_2.below hb
  clear bp_2
  clear hb
  clear L2
  obtain ⟨bplt, bpc0, bpc1, bpc2, bpc3, bpc4, bpc5, bpc6, bpc7, bpfz⟩ := bp_3
  go_wp2_with fail
  have bp_3 : Blk8 _ _ _ _ _ _ _ _ _ _ := ⟨bplt, bpc0, bpc1, bpc2, bpc3, bpc4, bpc5, bpc6, bpc7, bpfz⟩
  clear bplt bpc0 bpc1 bpc2 bpc3 bpc4 bpc5 bpc6 bpc7 bpfz
  refine (HY _).mono ?_
  rintro e w' ⟨rfl, rfl⟩
  obtain ⟨bplt, bpc0, bpc1, bpc2, bpc3, bpc4, bpc5, bpc6, bpc7, bpfz⟩ := bp_3
  go_wp2_with fail
  have bp_3 : Blk8 _ _ _ _ _ _ _ _ _ _ := ⟨bplt, bpc0, bpc1, bpc2, bpc3, bpc4, bpc5, bpc6, bpc7, bpfz⟩
  clear bplt bpc0 bpc1 bpc2 bpc3 bpc4 bpc5 bpc6 bpc7 bpfz
  refine (HW _).mono ?_
  rintro e w5 ⟨rfl, hb⟩
  have L5 := L3.trans (hb.mono L3.size)
  have bp_5 := bp_3.below hb
  clear bp_3
  clear hb
  clear L3
  obtain ⟨bplt, bpc0, bpc1, bpc2, bpc3, bpc4, bpc5, bpc6, bpc7, bpfz⟩ := bp_5
  go_wp2_with fail
  have bp_5 : Blk8 _ _ _ _ _ _ _ _ _ _ := ⟨bplt, bpc0, bpc1, bpc2, bpc3, bpc4, bpc5, bpc6, bpc7, bpfz⟩
  clear bplt bpc0 bpc1 bpc2 bpc3 bpc4 bpc5 bpc6 bpc7 bpfz
  refine (HR _).mono ?_
  rintro e w6 ⟨rfl, hb⟩
  have L6 := L5.trans (hb.mono L5.size)
  have bp_6 := bp_5.below hb
  clear bp_5
  clear hb
  clear L5
  obtain ⟨bplt, bpc0, bpc1, bpc2, bpc3, bpc4, bpc5, bpc6, bpc7, bpfz⟩ := bp_6
  go_wp2_with fail
  have bp_6 : Blk8 _ _ _ _ _ _ _ _ _ _ := ⟨bplt, bpc0, bpc1, bpc2, bpc3, bpc4, bpc5, bpc6, bpc7, bpfz⟩
  clear bplt bpc0 bpc1 bpc2 bpc3 bpc4 bpc5 bpc6 bpc7 bpfz
  refine (HF _).mono ?_
  rintro e w7 ⟨rfl, hb⟩
  have L7 := L6.trans (hb.mono L6.size)
  have bp_7 := bp_6.below hb
  clear bp_6
  clear hb
  clear L6
  obtain ⟨bplt, bpc0, bpc1, bpc2, bpc3, bpc4, bpc5, bpc6, bpc7, bpfz⟩ := bp_7
  go_wp2_with fail
  have bp_7 : Blk8 _ _ _ _ _ _ _ _ _ _ := ⟨bplt, bpc0, bpc1, bpc2, bpc3, bpc4, bpc5, bpc6, bpc7, bpfz⟩
  clear bplt bpc0 bpc1 bpc2 bpc3 bpc4 bpc5 bpc6 bpc7 bpfz
  go_ret
  exact ⟨rfl, L7⟩
set_option maxHeartbeats 1000000 in
theorem CivilWeeks_neg_bad (y mo d h mi s wd yd f l : Int) (hy : -9999 ≤ y) (hy2 : y ≤ 9999) (hp : ¬ 0 < y) (hr : ¬ Rt y mo d h mi s wd yd) (_b0 : -9223372036854775808 ≤ y) (_b0' : y ≤ 9223372036854775807) (w : World) :
    Calls Try.prog 9 #[CV y mo d h mi s wd yd, .int .i64 f, .int .i64 l] w fun e w' => e = .returned (.bool true) ∧ Below w.heap.size w w' := by
  have HE := Era_zero y mo d h mi s wd yd hy hy2 hp
  have HW := Week_bad y mo d h mi s wd yd f l hr
  have HY := yrR_yes y hy hy2
  have HR := RightNo y mo d h mi s wd yd hr
  clear hr
  unfold CV at *
  go_enter Try.func9, Try.ntmps9
  have L0 : Below w.heap.size w w := Below.refl _ _
  go_wp2_with fail
  have L1 : Below w.heap.size w (w.alloc (.cells #[.int .i64 y, .int .i64 mo, .int .i64 d, .int .i64 h, .int .i64 mi, .int .i64 s, .int .i64 wd, .int .i64 yd] 24)) := L0.alloc L0.size _
  have bp_1 := Blk8.new w (.int .i64 y) (.int .i64 mo) (.int .i64 d) (.int .i64 h) (.int .i64 mi) (.int .i64 s) (.int .i64 wd) (.int .i64 yd) 24
  clear L0
  refine (wakes_any _).mono ?_
  rintro e w2 ⟨rfl, hb⟩
  have L2 := L1.trans (hb.mono L1.size)
  have bp_2 := bp_1.below hb
  clear bp_1
  clear hb
  clear L1
  obtain ⟨bplt, bpc0, bpc1, bpc2, bpc3, bpc4, bpc5, bpc6, bpc7, bpfz⟩ := bp_2
  go_wp2_with fail
  have bp_2 : Blk8 _ _ _ _ _ _ _ _ _ _ := ⟨bplt, bpc0, bpc1, bpc2, bpc3, bpc4, bpc5, bpc6, bpc7, bpfz⟩
  clear bplt bpc0 bpc1 bpc2 bpc3 bpc4 bpc5 bpc6 bpc7 bpfz
  refine (HE _).mono ?_
  rintro e w3 ⟨rfl, hb⟩
  have L3 := L2.trans (hb.mono L2.size)
  have bp_3 := bp_2.below hb
  clear bp_2
  clear hb
  clear L2
  obtain ⟨bplt, bpc0, bpc1, bpc2, bpc3, bpc4, bpc5, bpc6, bpc7, bpfz⟩ := bp_3
  go_wp2_with fail
  have bp_3 : Blk8 _ _ _ _ _ _ _ _ _ _ := ⟨bplt, bpc0, bpc1, bpc2, bpc3, bpc4, bpc5, bpc6, bpc7, bpfz⟩
  clear bplt bpc0 bpc1 bpc2 bpc3 bpc4 bpc5 bpc6 bpc7 bpfz
  refine (HY _).mono ?_
  rintro e w' ⟨rfl, rfl⟩
  obtain ⟨bplt, bpc0, bpc1, bpc2, bpc3, bpc4, bpc5, bpc6, bpc7, bpfz⟩ := bp_3
  go_wp2_with fail
  have bp_3 : Blk8 _ _ _ _ _ _ _ _ _ _ := ⟨bplt, bpc0, bpc1, bpc2, bpc3, bpc4, bpc5, bpc6, bpc7, bpfz⟩
  clear bplt bpc0 bpc1 bpc2 bpc3 bpc4 bpc5 bpc6 bpc7 bpfz
  refine (HW _).mono ?_
  rintro e w5 ⟨rfl, hb⟩
  have L5 := L3.trans (hb.mono L3.size)
  have bp_5 := bp_3.below hb
  clear bp_3
  clear hb
  clear L3
  obtain ⟨bplt, bpc0, bpc1, bpc2, bpc3, bpc4, bpc5, bpc6, bpc7, bpfz⟩ := bp_5
  go_wp2_with fail
  have bp_5 : Blk8 _ _ _ _ _ _ _ _ _ _ := ⟨bplt, bpc0, bpc1, bpc2, bpc3, bpc4, bpc5, bpc6, bpc7, bpfz⟩
  clear bplt bpc0 bpc1 bpc2 bpc3 bpc4 bpc5 bpc6 bpc7 bpfz
  refine (HR _).mono ?_
  rintro e w6 ⟨rfl, hb⟩
  have L6 := L5.trans (hb.mono L5.size)
  have bp_6 := bp_5.below hb
  clear bp_5
  clear hb
  clear L5
  obtain ⟨bplt, bpc0, bpc1, bpc2, bpc3, bpc4, bpc5, bpc6, bpc7, bpfz⟩ := bp_6
  go_wp2_with fail
  have bp_6 : Blk8 _ _ _ _ _ _ _ _ _ _ := ⟨bplt, bpc0, bpc1, bpc2, bpc3, bpc4, bpc5, bpc6, bpc7, bpfz⟩
  clear bplt bpc0 bpc1 bpc2 bpc3 bpc4 bpc5 bpc6 bpc7 bpfz
  go_ret
  exact ⟨rfl, L6⟩
set_option maxHeartbeats 1000000 in
theorem CivilWeeks_neg_f1 (y mo d h mi s wd yd f l : Int) (hy : -9999 ≤ y) (hy2 : y ≤ 9999) (hp : ¬ 0 < y) (hr : Rt y mo d h mi s wd yd) (t0 : f < 0) (_b0 : -9223372036854775808 ≤ y) (_b0' : y ≤ 9223372036854775807) (w : World) :
    Calls Try.prog 9 #[CV y mo d h mi s wd yd, .int .i64 f, .int .i64 l] w fun e w' => e = .returned (.bool true) ∧ Below w.heap.size w w' := by
  have HE := Era_zero y mo d h mi s wd yd hy hy2 hp
  have HW := Week_f1 y mo d h mi s wd yd f l hr t0
  have HY := yrR_yes y hy hy2
  have HR := RightYes y mo d h mi s wd yd hr
  clear hr
  unfold CV at *
  go_enter Try.func9, Try.ntmps9
  have L0 : Below w.heap.size w w := Below.refl _ _
  go_wp2_with fail
  have L1 : Below w.heap.size w (w.alloc (.cells #[.int .i64 y, .int .i64 mo, .int .i64 d, .int .i64 h, .int .i64 mi, .int .i64 s, .int .i64 wd, .int .i64 yd] 24)) := L0.alloc L0.size _
  have bp_1 := Blk8.new w (.int .i64 y) (.int .i64 mo) (.int .i64 d) (.int .i64 h) (.int .i64 mi) (.int .i64 s) (.int .i64 wd) (.int .i64 yd) 24
  clear L0
  refine (wakes_any _).mono ?_
  rintro e w2 ⟨rfl, hb⟩
  have L2 := L1.trans (hb.mono L1.size)
  have bp_2 := bp_1.below hb
  clear bp_1
  clear hb
  clear L1
  obtain ⟨bplt, bpc0, bpc1, bpc2, bpc3, bpc4, bpc5, bpc6, bpc7, bpfz⟩ := bp_2
  go_wp2_with fail
  have bp_2 : Blk8 _ _ _ _ _ _ _ _ _ _ := ⟨bplt, bpc0, bpc1, bpc2, bpc3, bpc4, bpc5, bpc6, bpc7, bpfz⟩
  clear bplt bpc0 bpc1 bpc2 bpc3 bpc4 bpc5 bpc6 bpc7 bpfz
  refine (HE _).mono ?_
  rintro e w3 ⟨rfl, hb⟩
  have L3 := L2.trans (hb.mono L2.size)
  have bp_3 := bp_2.below hb
  clear bp_2
  clear hb
  clear L2
  obtain ⟨bplt, bpc0, bpc1, bpc2, bpc3, bpc4, bpc5, bpc6, bpc7, bpfz⟩ := bp_3
  go_wp2_with fail
  have bp_3 : Blk8 _ _ _ _ _ _ _ _ _ _ := ⟨bplt, bpc0, bpc1, bpc2, bpc3, bpc4, bpc5, bpc6, bpc7, bpfz⟩
  clear bplt bpc0 bpc1 bpc2 bpc3 bpc4 bpc5 bpc6 bpc7 bpfz
  refine (HY _).mono ?_
  rintro e w' ⟨rfl, rfl⟩
  obtain ⟨bplt, bpc0, bpc1, bpc2, bpc3, bpc4, bpc5, bpc6, bpc7, bpfz⟩ := bp_3
  go_wp2_with fail
  have bp_3 : Blk8 _ _ _ _ _ _ _ _ _ _ := ⟨bplt, bpc0, bpc1, bpc2, bpc3, bpc4, bpc5, bpc6, bpc7, bpfz⟩
  clear bplt bpc0 bpc1 bpc2 bpc3 bpc4 bpc5 bpc6 bpc7 bpfz
  refine (HW _).mono ?_
  rintro e w5 ⟨rfl, hb⟩
  have L5 := L3.trans (hb.mono L3.size)
  have bp_5 := bp_3.below hb
  clear bp_3
  clear hb
  clear L3
  obtain ⟨bplt, bpc0, bpc1, bpc2, bpc3, bpc4, bpc5, bpc6, bpc7, bpfz⟩ := bp_5
  go_wp2_with fail
  have bp_5 : Blk8 _ _ _ _ _ _ _ _ _ _ := ⟨bplt, bpc0, bpc1, bpc2, bpc3, bpc4, bpc5, bpc6, bpc7, bpfz⟩
  clear bplt bpc0 bpc1 bpc2 bpc3 bpc4 bpc5 bpc6 bpc7 bpfz
  refine (HR _).mono ?_
  rintro e w6 ⟨rfl, hb⟩
  have L6 := L5.trans (hb.mono L5.size)
  have bp_6 := bp_5.below hb
  clear bp_5
  clear hb
  clear L5
  obtain ⟨bplt, bpc0, bpc1, bpc2, bpc3, bpc4, bpc5, bpc6, bpc7, bpfz⟩ := bp_6
  go_wp2_with fail
  have bp_6 : Blk8 _ _ _ _ _ _ _ _ _ _ := ⟨bplt, bpc0, bpc1, bpc2, bpc3, bpc4, bpc5, bpc6, bpc7, bpfz⟩
  clear bplt bpc0 bpc1 bpc2 bpc3 bpc4 bpc5 bpc6 bpc7 bpfz
  go_ret
  exact ⟨rfl, L6⟩
set_option maxHeartbeats 1000000 in
theorem CivilWeeks_neg_f2 (y mo d h mi s wd yd f l : Int) (hy : -9999 ≤ y) (hy2 : y ≤ 9999) (hp : ¬ 0 < y) (hr : Rt y mo d h mi s wd yd) (t0 : ¬ f < 0) (t1 : 6 < f) (_b0 : -9223372036854775808 ≤ y) (_b0' : y ≤ 9223372036854775807) (w : World) :
    Calls Try.prog 9 #[CV y mo d h mi s wd yd, .int .i64 f, .int .i64 l] w fun e w' => e = .returned (.bool true) ∧ Below w.heap.size w w' := by
  have HE := Era_zero y mo d h mi s wd yd hy hy2 hp
  have HW := Week_f2 y mo d h mi s wd yd f l hr t0 t1
  have HY := yrR_yes y hy hy2
  have HR := RightYes y mo d h mi s wd yd hr
  clear hr
  unfold CV at *
  go_enter Try.func9, Try.ntmps9
  have L0 : Below w.heap.size w w := Below.refl _ _
  go_wp2_with fail
  have L1 : Below w.heap.size w (w.alloc (.cells #[.int .i64 y, .int .i64 mo, .int .i64 d, .int .i64 h, .int .i64 mi, .int .i64 s, .int .i64 wd, .int .i64 yd] 24)) := L0.alloc L0.size _
  have bp_1 := Blk8.new w (.int .i64 y) (.int .i64 mo) (.int .i64 d) (.int .i64 h) (.int .i64 mi) (.int .i64 s) (.int .i64 wd) (.int .i64 yd) 24
  clear L0
  refine (wakes_any _).mono ?_
  rintro e w2 ⟨rfl, hb⟩
  have L2 := L1.trans (hb.mono L1.size)
  have bp_2 := bp_1.below hb
  clear bp_1
  clear hb
  clear L1
  obtain ⟨bplt, bpc0, bpc1, bpc2, bpc3, bpc4, bpc5, bpc6, bpc7, bpfz⟩ := bp_2
  go_wp2_with fail
  have bp_2 : Blk8 _ _ _ _ _ _ _ _ _ _ := ⟨bplt, bpc0, bpc1, bpc2, bpc3, bpc4, bpc5, bpc6, bpc7, bpfz⟩
  clear bplt bpc0 bpc1 bpc2 bpc3 bpc4 bpc5 bpc6 bpc7 bpfz
  refine (HE _).mono ?_
  rintro e w3 ⟨rfl, hb⟩
  have L3 := L2.trans (hb.mono L2.size)
  have bp_3 := bp_2.below hb
  clear bp_2
  clear hb
  clear L2
  obtain ⟨bplt, bpc0, bpc1, bpc2, bpc3, bpc4, bpc5, bpc6, bpc7, bpfz⟩ := bp_3
  go_wp2_with fail
  have bp_3 : Blk8 _ _ _ _ _ _ _ _ _ _ := ⟨bplt, bpc0, bpc1, bpc2, bpc3, bpc4, bpc5, bpc6, bpc7, bpfz⟩
  clear bplt bpc0 bpc1 bpc2 bpc3 bpc4 bpc5 bpc6 bpc7 bpfz
  refine (HY _).mono ?_
  rintro e w' ⟨rfl, rfl⟩
  obtain ⟨bplt, bpc0, bpc1, bpc2, bpc3, bpc4, bpc5, bpc6, bpc7, bpfz⟩ := bp_3
  go_wp2_with fail
  have bp_3 : Blk8 _ _ _ _ _ _ _ _ _ _ := ⟨bplt, bpc0, bpc1, bpc2, bpc3, bpc4, bpc5, bpc6, bpc7, bpfz⟩
  clear bplt bpc0 bpc1 bpc2 bpc3 bpc4 bpc5 bpc6 bpc7 bpfz
  refine (HW _).mono ?_
  rintro e w5 ⟨rfl, hb⟩
  have L5 := L3.trans (hb.mono L3.size)
  have bp_5 := bp_3.below hb
  clear bp_3
  clear hb
  clear L3
  obtain ⟨bplt, bpc0, bpc1, bpc2, bpc3, bpc4, bpc5, bpc6, bpc7, bpfz⟩ := bp_5
  go_wp2_with fail
  have bp_5 : Blk8 _ _ _ _ _ _ _ _ _ _ := ⟨bplt, bpc0, bpc1, bpc2, bpc3, bpc4, bpc5, bpc6, bpc7, bpfz⟩
  clear bplt bpc0 bpc1 bpc2 bpc3 bpc4 bpc5 bpc6 bpc7 bpfz
  refine (HR _).mono ?_
  rintro e w6 ⟨rfl, hb⟩
  have L6 := L5.trans (hb.mono L5.size)
  have bp_6 := bp_5.below hb
  clear bp_5
  clear hb
  clear L5
  obtain ⟨bplt, bpc0, bpc1, bpc2, bpc3, bpc4, bpc5, bpc6, bpc7, bpfz⟩ := bp_6
  go_wp2_with fail
  have bp_6 : Blk8 _ _ _ _ _ _ _ _ _ _ := ⟨bplt, bpc0, bpc1, bpc2, bpc3, bpc4, bpc5, bpc6, bpc7, bpfz⟩
  clear bplt bpc0 bpc1 bpc2 bpc3 bpc4 bpc5 bpc6 bpc7 bpfz
  go_ret
  exact ⟨rfl, L6⟩
set_option maxHeartbeats 1000000 in
theorem CivilWeeks_neg_l1 (y mo d h mi s wd yd f l : Int) (hy : -9999 ≤ y) (hy2 : y ≤ 9999) (hp : ¬ 0 < y) (hr : Rt y mo d h mi s wd yd) (t0 : ¬ f < 0) (t1 : ¬ 6 < f) (t2 : l < 1) (_b0 : -9223372036854775808 ≤ y) (_b0' : y ≤ 9223372036854775807) (w : World) :
    Calls Try.prog 9 #[CV y mo d h mi s wd yd, .int .i64 f, .int .i64 l] w fun e w' => e = .returned (.bool true) ∧ Below w.heap.size w w' := by
  have HE := Era_zero y mo d h mi s wd yd hy hy2 hp
  have HW := Week_l1 y mo d h mi s wd yd f l hr t0 t1 t2
  have HY := yrR_yes y hy hy2
  have HR := RightYes y mo d h mi s wd yd hr
  clear hr
  unfold CV at *
  go_enter Try.func9, Try.ntmps9
  have L0 : Below w.heap.size w w := Below.refl _ _
  go_wp2_with fail
  have L1 : Below w.heap.size w (w.alloc (.cells #[.int .i64 y, .int .i64 mo, .int .i64 d, .int .i64 h, .int .i64 mi, .int .i64 s, .int .i64 wd, .int .i64 yd] 24)) := L0.alloc L0.size _
  have bp_1 := Blk8.new w (.int .i64 y) (.int .i64 mo) (.int .i64 d) (.int .i64 h) (.int .i64 mi) (.int .i64 s) (.int .i64 wd) (.int .i64 yd) 24
  clear L0
  refine (wakes_any _).mono ?_
  rintro e w2 ⟨rfl, hb⟩
  have L2 := L1.trans (hb.mono L1.size)
  have bp_2 := bp_1.below hb
  clear bp_1
  clear hb
  clear L1
  obtain ⟨bplt, bpc0, bpc1, bpc2, bpc3, bpc4, bpc5, bpc6, bpc7, bpfz⟩ := bp_2
  go_wp2_with fail
  have bp_2 : Blk8 _ _ _ _ _ _ _ _ _ _ := ⟨bplt, bpc0, bpc1, bpc2, bpc3, bpc4, bpc5, bpc6, bpc7, bpfz⟩
  clear bplt bpc0 bpc1 bpc2 bpc3 bpc4 bpc5 bpc6 bpc7 bpfz
  refine (HE _).mono ?_
  rintro e w3 ⟨rfl, hb⟩
  have L3 := L2.trans (hb.mono L2.size)
  have bp_3 := bp_2.below hb
  clear bp_2
  clear hb
  clear L2
  obtain ⟨bplt, bpc0, bpc1, bpc2, bpc3, bpc4, bpc5, bpc6, bpc7, bpfz⟩ := bp_3
  go_wp2_with fail
  have bp_3 : Blk8 _ _ _ _ _ _ _ _ _ _ := ⟨bplt, bpc0, bpc1, bpc2, bpc3, bpc4, bpc5, bpc6, bpc7, bpfz⟩
  clear bplt bpc0 bpc1 bpc2 bpc3 bpc4 bpc5 bpc6 bpc7 bpfz
  refine (HY _).mono ?_
  rintro e w' ⟨rfl, rfl⟩
  obtain ⟨bplt, bpc0, bpc1, bpc2, bpc3, bpc4, bpc5, bpc6, bpc7, bpfz⟩ := bp_3
  go_wp2_with fail
  have bp_3 : Blk8 _ _ _ _ _ _ _ _ _ _ := ⟨bplt, bpc0, bpc1, bpc2, bpc3, bpc4, bpc5, bpc6, bpc7, bpfz⟩
  clear bplt bpc0 bpc1 bpc2 bpc3 bpc4 bpc5 bpc6 bpc7 bpfz
  refine (HW _).mono ?_
  rintro e w5 ⟨rfl, hb⟩
  have L5 := L3.trans (hb.mono L3.size)
  have bp_5 := bp_3.below hb
  clear bp_3
  clear hb
  clear L3
  obtain ⟨bplt, bpc0, bpc1, bpc2, bpc3, bpc4, bpc5, bpc6, bpc7, bpfz⟩ := bp_5
  go_wp2_with fail
  have bp_5 : Blk8 _ _ _ _ _ _ _ _ _ _ := ⟨bplt, bpc0, bpc1, bpc2, bpc3, bpc4, bpc5, bpc6, bpc7, bpfz⟩
  clear bplt bpc0 bpc1 bpc2 bpc3 bpc4 bpc5 bpc6 bpc7 bpfz
  refine (HR _).mono ?_
  rintro e w6 ⟨rfl, hb⟩
  have L6 := L5.trans (hb.mono L5.size)
  have bp_6 := bp_5.below hb
  clear bp_5
  clear hb
  clear L5
  obtain ⟨bplt, bpc0, bpc1, bpc2, bpc3, bpc4, bpc5, bpc6, bpc7, bpfz⟩ := bp_6
  go_wp2_with fail
  have bp_6 : Blk8 _ _ _ _ _ _ _ _ _ _ := ⟨bplt, bpc0, bpc1, bpc2, bpc3, bpc4, bpc5, bpc6, bpc7, bpfz⟩
  clear bplt bpc0 bpc1 bpc2 bpc3 bpc4 bpc5 bpc6 bpc7 bpfz
  go_ret
  exact ⟨rfl, L6⟩
set_option maxHeartbeats 1000000 in
theorem CivilWeeks_neg_l2 (y mo d h mi s wd yd f l : Int) (hy : -9999 ≤ y) (hy2 : y ≤ 9999) (hp : ¬ 0 < y) (hr : Rt y mo d h mi s wd yd) (t0 : ¬ f < 0) (t1 : ¬ 6 < f) (t2 : ¬ l < 1) (t3 : 7 < l) (_b0 : -9223372036854775808 ≤ y) (_b0' : y ≤ 9223372036854775807) (w : World) :
    Calls Try.prog 9 #[CV y mo d h mi s wd yd, .int .i64 f, .int .i64 l] w fun e w' => e = .returned (.bool true) ∧ Below w.heap.size w w' := by
  have HE := Era_zero y mo d h mi s wd yd hy hy2 hp
  have HW := Week_l2 y mo d h mi s wd yd f l hr t0 t1 t2 t3
  have HY := yrR_yes y hy hy2
  have HR := RightYes y mo d h mi s wd yd hr
  clear hr
  unfold CV at *
  go_enter Try.func9, Try.ntmps9
  have L0 : Below w.heap.size w w := Below.refl _ _
  go_wp2_with fail
  have L1 : Below w.heap.size w (w.alloc (.cells #[.int .i64 y, .int .i64 mo, .int .i64 d, .int .i64 h, .int .i64 mi, .int .i64 s, .int .i64 wd, .int .i64 yd] 24)) := L0.alloc L0.size _
  have bp_1 := Blk8.new w (.int .i64 y) (.int .i64 mo) (.int .i64 d) (.int .i64 h) (.int .i64 mi) (.int .i64 s) (.int .i64 wd) (.int .i64 yd) 24
  clear L0
  refine (wakes_any _).mono ?_
  rintro e w2 ⟨rfl, hb⟩
  have L2 := L1.trans (hb.mono L1.size)
  have bp_2 := bp_1.below hb
  clear bp_1
  clear hb
  clear L1
  obtain ⟨bplt, bpc0, bpc1, bpc2, bpc3, bpc4, bpc5, bpc6, bpc7, bpfz⟩ := bp_2
  go_wp2_with fail
  have bp_2 : Blk8 _ _ _ _ _ _ _ _ _ _ := ⟨bplt, bpc0, bpc1, bpc2, bpc3, bpc4, bpc5, bpc6, bpc7, bpfz⟩
  clear bplt bpc0 bpc1 bpc2 bpc3 bpc4 bpc5 bpc6 bpc7 bpfz
  refine (HE _).mono ?_
  rintro e w3 ⟨rfl, hb⟩
  have L3 := L2.trans (hb.mono L2.size)
  have bp_3 := bp_2.below hb
  clear bp_2
  clear hb
  clear L2
  obtain ⟨bplt, bpc0, bpc1, bpc2, bpc3, bpc4, bpc5, bpc6, bpc7, bpfz⟩ := bp_3
  go_wp2_with fail
  have bp_3 : Blk8 _ _ _ _ _ _ _ _ _ _ := ⟨bplt, bpc0, bpc1, bpc2, bpc3, bpc4, bpc5, bpc6, bpc7, bpfz⟩
  clear bplt bpc0 bpc1 bpc2 bpc3 bpc4 bpc5 bpc6 bpc7 bpfz
  refine (HY _).mono ?_
  rintro e w' ⟨rfl, rfl⟩
  obtain ⟨bplt, bpc0, bpc1, bpc2, bpc3, bpc4, bpc5, bpc6, bpc7, bpfz⟩ := bp_3
  go_wp2_with fail
  have bp_3 : Blk8 _ _ _ _ _ _ _ _ _ _ := ⟨bplt, bpc0, bpc1, bpc2, bpc3, bpc4, bpc5, bpc6, bpc7, bpfz⟩
  clear bplt bpc0 bpc1 bpc2 bpc3 bpc4 bpc5 bpc6 bpc7 bpfz
  refine (HW _).mono ?_
  rintro e w5 ⟨rfl, hb⟩
  have L5 := L3.trans (hb.mono L3.size)
  have bp_5 := bp_3.below hb
  clear bp_3
  clear hb
  clear L3
  obtain ⟨bplt, bpc0, bpc1, bpc2, bpc3, bpc4, bpc5, bpc6, bpc7, bpfz⟩ := bp_5
  go_wp2_with fail
  have bp_5 : Blk8 _ _ _ _ _ _ _ _ _ _ := ⟨bplt, bpc0, bpc1, bpc2, bpc3, bpc4, bpc5, bpc6, bpc7, bpfz⟩
  clear bplt bpc0 bpc1 bpc2 bpc3 bpc4 bpc5 bpc6 bpc7 bpfz
  refine (HR _).mono ?_
  rintro e w6 ⟨rfl, hb⟩
  have L6 := L5.trans (hb.mono L5.size)
  have bp_6 := bp_5.below hb
  clear bp_5
  clear hb
  clear L5
  obtain ⟨bplt, bpc0, bpc1, bpc2, bpc3, bpc4, bpc5, bpc6, bpc7, bpfz⟩ := bp_6
  go_wp2_with fail
  have bp_6 : Blk8 _ _ _ _ _ _ _ _ _ _ := ⟨bplt, bpc0, bpc1, bpc2, bpc3, bpc4, bpc5, bpc6, bpc7, bpfz⟩
  clear bplt bpc0 bpc1 bpc2 bpc3 bpc4 bpc5 bpc6 bpc7 bpfz
  go_ret
  exact ⟨rfl, L6⟩
set_option maxHeartbeats 1000000 in
theorem CivilWeeks_neg_ok (y mo d h mi s wd yd f l : Int) (hy : -9999 ≤ y) (hy2 : y ≤ 9999) (hp : ¬ 0 < y) (hr : Rt y mo d h mi s wd yd) (f0 : 0 ≤ f) (f6 : f ≤ 6) (l1 : 1 ≤ l) (l7 : l ≤ 7) (_b0 : -9223372036854775808 ≤ y) (_b0' : y ≤ 9223372036854775807) (w : World) :
    Calls Try.prog 9 #[CV y mo d h mi s wd yd, .int .i64 f, .int .i64 l] w fun e w' => e = .returned (.bool true) ∧ Below w.heap.size w w' := by
  have HE := Era_zero y mo d h mi s wd yd hy hy2 hp
  have HW := Week_yes y mo d h mi s wd yd f l hr f0 f6 l1 l7
  have HY := yrR_yes y hy hy2
  have HR := RightYes y mo d h mi s wd yd hr
  have HF := refWeek y mo d h mi s wd yd f l hr f0 f6 l1 l7
  generalize CivT.wkY y (Cal.num y mo d) f l = U at *
  generalize CivT.wkW y (Cal.num y mo d) f l = V at *
  clear hr
  unfold CV at *
  go_enter Try.func9, Try.ntmps9
  have L0 : Below w.heap.size w w := Below.refl _ _
  go_wp2_with fail
  have L1 : Below w.heap.size w (w.alloc (.cells #[.int .i64 y, .int .i64 mo, .int .i64 d, .int .i64 h, .int .i64 mi, .int .i64 s, .int .i64 wd, .int .i64 yd] 24)) := L0.alloc L0.size _
  have bp_1 := Blk8.new w (.int .i64 y) (.int .i64 mo) (.int .i64 d) (.int .i64 h) (.int .i64 mi) (.int .i64 s) (.int .i64 wd) (.int .i64 yd) 24
  clear L0
  refine (wakes_any _).mono ?_
  rintro e w2 ⟨rfl, hb⟩
  have L2 := L1.trans (hb.mono L1.size)
  have bp_2 := bp_1.below hb
  clear bp_1
  clear hb
  clear L1
  obtain ⟨bplt, bpc0, bpc1, bpc2, bpc3, bpc4, bpc5, bpc6, bpc7, bpfz⟩ := bp_2
  go_wp2_with fail
  have bp_2 : Blk8 _ _ _ _ _ _ _ _ _ _ := ⟨bplt, bpc0, bpc1, bpc2, bpc3, bpc4, bpc5, bpc6, bpc7, bpfz⟩
  clear bplt bpc0 bpc1 bpc2 bpc3 bpc4 bpc5 bpc6 bpc7 bpfz
  refine (HE _).mono ?_
  rintro e w3 ⟨rfl, hb⟩
  have L3 := L2.trans (hb.mono L2.size)
  have bp_3 := bp_2.below hb
  clear bp_2
  clear hb
  clear L2
  obtain ⟨bplt, bpc0, bpc1, bpc2, bpc3, bpc4, bpc5, bpc6, bpc7, bpfz⟩ := bp_3
  go_wp2_with fail
  have bp_3 : Blk8 _ _ _ _ _ _ _ _ _ _ := ⟨bplt, bpc0, bpc1, bpc2, bpc3, bpc4, bpc5, bpc6, bpc7, bpfz⟩
  clear bplt bpc0 bpc1 bpc2 bpc3 bpc4 bpc5 bpc6 bpc7 bpfz
  refine (HY _).mono ?_
  rintro e w' ⟨rfl, rfl⟩
  obtain ⟨bplt, bpc0, bpc1, bpc2, bpc3, bpc4, bpc5, bpc6, bpc7, bpfz⟩ := bp_3
  go_wp2_with fail
  have bp_3 : Blk8 _ _ _ _ _ _ _ _ _ _ := ⟨bplt, bpc0, bpc1, bpc2, bpc3, bpc4, bpc5, bpc6, bpc7, bpfz⟩
  clear bplt bpc0 bpc1 bpc2 bpc3 bpc4 bpc5 bpc6 bpc7 bpfz
  refine (HW _).mono ?_
  rintro e w5 ⟨rfl, hb⟩
  have L5 := L3.trans (hb.mono L3.size)
  have bp_5 := bp_3.below hb
  clear bp_3
  clear hb
  clear L3
  obtain ⟨bplt, bpc0, bpc1, bpc2, bpc3, bpc4, bpc5, bpc6, bpc7, bpfz⟩ := bp_5
  go_wp2_with fail
  have bp_5 : Blk8 _ _ _ _ _ _ _ _ _ _ := ⟨bplt, bpc0, bpc1, bpc2, bpc3, bpc4, bpc5, bpc6, bpc7, bpfz⟩
  clear bplt bpc0 bpc1 bpc2 bpc3 bpc4 bpc5 bpc6 bpc7 bpfz
  refine (HR _).mono ?_
  rintro e w6 ⟨rfl, hb⟩
  have L6 := L5.trans (hb.mono L5.size)
  have bp_6 := bp_5.below hb
  clear bp_5
  clear hb
  clear L5
  obtain ⟨bplt, bpc0, bpc1, bpc2, bpc3, bpc4, bpc5, bpc6, bpc7, bpfz⟩ := bp_6
  go_wp2_with fail
  have bp_6 : Blk8 _ _ _ _ _ _ _ _ _ _ := ⟨bplt, bpc0, bpc1, bpc2, bpc3, bpc4, bpc5, bpc6, bpc7, bpfz⟩
  clear bplt bpc0 bpc1 bpc2 bpc3 bpc4 bpc5 bpc6 bpc7 bpfz
  refine (HF _).mono ?_
  rintro e w7 ⟨rfl, hb⟩
  have L7 := L6.trans (hb.mono L6.size)
  have bp_7 := bp_6.below hb
  clear bp_6
  clear hb
  clear L6
  obtain ⟨bplt, bpc0, bpc1, bpc2, bpc3, bpc4, bpc5, bpc6, bpc7, bpfz⟩ := bp_7
  go_wp2_with fail
  have bp_7 : Blk8 _ _ _ _ _ _ _ _ _ _ := ⟨bplt, bpc0, bpc1, bpc2, bpc3, bpc4, bpc5, bpc6, bpc7, bpfz⟩
  clear bplt bpc0 bpc1 bpc2 bpc3 bpc4 bpc5 bpc6 bpc7 bpfz
  go_ret
  exact ⟨rfl, L7⟩
theorem CivilWeeks_walk (y mo d h mi s wd yd f l : Int) (_b0 : -9223372036854775808 ≤ y) (_b0' : y ≤ 9223372036854775807) (_b1 : -9223372036854775808 ≤ mo) (_b1' : mo ≤ 9223372036854775807) (_b2 : -9223372036854775808 ≤ d) (_b2' : d ≤ 9223372036854775807) (_b3 : -9223372036854775808 ≤ h) (_b3' : h ≤ 9223372036854775807) (_b4 : -9223372036854775808 ≤ mi) (_b4' : mi ≤ 9223372036854775807) (_b5 : -9223372036854775808 ≤ s) (_b5' : s ≤ 9223372036854775807) (_b6 : -9223372036854775808 ≤ wd) (_b6' : wd ≤ 9223372036854775807) (_b7 : -9223372036854775808 ≤ yd) (_b7' : yd ≤ 9223372036854775807) (_b8 : -9223372036854775808 ≤ f) (_b8' : f ≤ 9223372036854775807) (_b9 : -9223372036854775808 ≤ l) (_b9' : l ≤ 9223372036854775807) (w : World) :
    Calls Try.prog 9 #[.agg #[.int .i64 y, .int .i64 mo, .int .i64 d, .int .i64 h, .int .i64 mi, .int .i64 s, .int .i64 wd, .int .i64 yd], .int .i64 f, .int .i64 l] w fun e w' => e = .returned (.bool true) ∧ Below w.heap.size w w' := by
  change Calls Try.prog 9 #[CV y mo d h mi s wd yd, .int .i64 f, .int .i64 l] w _
  by_cases hy : -9999 ≤ y ∧ y ≤ 9999
  · by_cases hp : 0 < y
    · by_cases hr : Rt y mo d h mi s wd yd
      · by_cases t0 : f < 0
        · exact CivilWeeks_pos_f1 y mo d h mi s wd yd f l hy.1 hy.2 hp hr t0 _b0 _b0' w
        · by_cases t1 : 6 < f
          · exact CivilWeeks_pos_f2 y mo d h mi s wd yd f l hy.1 hy.2 hp hr t0 t1 _b0 _b0' w
          · by_cases t2 : l < 1
            · exact CivilWeeks_pos_l1 y mo d h mi s wd yd f l hy.1 hy.2 hp hr t0 t1 t2 _b0 _b0' w
            · by_cases t3 : 7 < l
              · exact CivilWeeks_pos_l2 y mo d h mi s wd yd f l hy.1 hy.2 hp hr t0 t1 t2 t3 _b0 _b0' w
              · exact CivilWeeks_pos_ok y mo d h mi s wd yd f l hy.1 hy.2 hp hr (by omega) (by omega) (by omega) (by omega) _b0 _b0' w
      · exact CivilWeeks_pos_bad y mo d h mi s wd yd f l hy.1 hy.2 hp hr _b0 _b0' w
    · by_cases hr : Rt y mo d h mi s wd yd
      · by_cases t0 : f < 0
        · exact CivilWeeks_neg_f1 y mo d h mi s wd yd f l hy.1 hy.2 hp hr t0 _b0 _b0' w
        · by_cases t1 : 6 < f
          · exact CivilWeeks_neg_f2 y mo d h mi s wd yd f l hy.1 hy.2 hp hr t0 t1 _b0 _b0' w
          · by_cases t2 : l < 1
            · exact CivilWeeks_neg_l1 y mo d h mi s wd yd f l hy.1 hy.2 hp hr t0 t1 t2 _b0 _b0' w
            · by_cases t3 : 7 < l
              · exact CivilWeeks_neg_l2 y mo d h mi s wd yd f l hy.1 hy.2 hp hr t0 t1 t2 t3 _b0 _b0' w
              · exact CivilWeeks_neg_ok y mo d h mi s wd yd f l hy.1 hy.2 hp hr (by omega) (by omega) (by omega) (by omega) _b0 _b0' w
      · exact CivilWeeks_neg_bad y mo d h mi s wd yd f l hy.1 hy.2 hp hr _b0 _b0' w
  · refine CivilWeeks_no_bad y mo d h mi s wd yd f l hy (fun hr => hy ?_) _b0 _b0' w
    obtain ⟨h1, h2, _⟩ := hr
    obtain ⟨k1, k2, _⟩ := days_in h1 h2
    exact ⟨k1, k2⟩
end Go.Proofs.Ytafoodfbjebdcaa
