/-
  Contract of civil.AddMonths over every civil and number. Conditions: those that each theorem names.
-/
import Derived.Test.YtafoodfbjebdcaaP
import Derived.WalkKit
import Derived.ProofKit
import Derived.OpenShut
import Derived.Deep.QuietTactic
import Derived.BigQuiet
import Derived.Lib.Hide
import Derived.WalkLawsBesides
import Derived.Lib.QuietBelow
import Derived.Deep.RegionHeld3
import Derived.Deep.DrawnRows
import Derived.IntWalk
namespace Go.Proofs.Ytafoodfbjebdcaa
attribute [local go_sem ↓] Go.wp_at_zero Go.wp_at_succ
open Go.ChangeShapes Go.WideShapes Go.ChangeAt Go.RowKit
set_option maxHeartbeats 1000000 in
theorem AddMonths_bad (y mo d h mi s wd yd n : Int) (hr : ¬ Rt y mo d h mi s wd yd) (w : World) :
    Calls Try.prog 26 #[CV y mo d h mi s wd yd, .int .i64 n] w fun e w' => e = .returned (.tuple #[civ0, .int .i64 2]) ∧ Below w.heap.size w w' := by
  have HK := Check_no y mo d h mi s wd yd hr
  clear hr
  unfold CV at *
  go_enter Try.func26, Try.ntmps26
  have L0 : Below w.heap.size w w := Below.refl _ _
  go_wp2_with fail
  have L1 : Below w.heap.size w (w.alloc (.cells #[.int .i64 y, .int .i64 mo, .int .i64 d, .int .i64 h, .int .i64 mi, .int .i64 s, .int .i64 wd, .int .i64 yd] 24)) := L0.alloc L0.size _
  have bp_1 := Blk8.new w (.int .i64 y) (.int .i64 mo) (.int .i64 d) (.int .i64 h) (.int .i64 mi) (.int .i64 s) (.int .i64 wd) (.int .i64 yd) 24
  clear L0
  have L2 : Below w.heap.size w ((w.alloc (.cells #[.int .i64 y, .int .i64 mo, .int .i64 d, .int .i64 h, .int .i64 mi, .int .i64 s, .int .i64 wd, .int .i64 yd] 24)).alloc (.cells #[.int .i64 0, .int .i64 0, .int .i64 0, .int .i64 0, .int .i64 0, .int .i64 0, .int .i64 0, .int .i64 0] 24)) := L1.alloc L1.size _
  have bp_2 := bp_1.alloc #[.int .i64 0, .int .i64 0, .int .i64 0, .int .i64 0, .int .i64 0, .int .i64 0, .int .i64 0, .int .i64 0] 24
  clear bp_1
  have br_2 := Blk8.newAt (B := (w.heap.size + 1)) (w.alloc (.cells #[.int .i64 y, .int .i64 mo, .int .i64 d, .int .i64 h, .int .i64 mi, .int .i64 s, .int .i64 wd, .int .i64 yd] 24)) (by simp) (.int .i64 0) (.int .i64 0) (.int .i64 0) (.int .i64 0) (.int .i64 0) (.int .i64 0) (.int .i64 0) (.int .i64 0) 24
  clear L1
  refine (HK _).mono ?_
  rintro e w3 ⟨rfl, hb⟩
  have L3 := L2.trans (hb.mono L2.size)
  have bp_3 := bp_2.below hb
  clear bp_2
  have br_3 := br_2.below hb
  clear br_2
  clear hb
  clear L2
  obtain ⟨brlt, brc0, brc1, brc2, brc3, brc4, brc5, brc6, brc7, brfz⟩ := br_3
  go_wp2_with fail
  refine bodyPost_ret (v := .tuple #[civ0, .int .i64 2]) ?_ rfl ⟨rfl, ?_⟩
  · unfold civ0; simp [results, Try.results26, go_sem, brc0, brc1, brc2, brc3, brc4, brc5, brc6, brc7]
  · repeat' (first | (with_reducible exact L3) | (with_reducible refine Below.setCell ?_ ?_ _) | (simp; done))
set_option maxHeartbeats 1000000 in
theorem AddMonths_far1 (y mo d h mi s wd yd n : Int) (hr : Rt y mo d h mi s wd yd) (hn : 1099511627776 < n) (w : World) :
    Calls Try.prog 26 #[CV y mo d h mi s wd yd, .int .i64 n] w fun e w' => e = .returned (.tuple #[civ0, .int .i64 7]) ∧ Below w.heap.size w w' := by
  have HK := Check_yes y mo d h mi s wd yd hr
  clear hr
  unfold CV at *
  go_enter Try.func26, Try.ntmps26
  have L0 : Below w.heap.size w w := Below.refl _ _
  go_wp2_with fail
  have L1 : Below w.heap.size w (w.alloc (.cells #[.int .i64 y, .int .i64 mo, .int .i64 d, .int .i64 h, .int .i64 mi, .int .i64 s, .int .i64 wd, .int .i64 yd] 24)) := L0.alloc L0.size _
  have bp_1 := Blk8.new w (.int .i64 y) (.int .i64 mo) (.int .i64 d) (.int .i64 h) (.int .i64 mi) (.int .i64 s) (.int .i64 wd) (.int .i64 yd) 24
  clear L0
  have L2 : Below w.heap.size w ((w.alloc (.cells #[.int .i64 y, .int .i64 mo, .int .i64 d, .int .i64 h, .int .i64 mi, .int .i64 s, .int .i64 wd, .int .i64 yd] 24)).alloc (.cells #[.int .i64 0, .int .i64 0, .int .i64 0, .int .i64 0, .int .i64 0, .int .i64 0, .int .i64 0, .int .i64 0] 24)) := L1.alloc L1.size _
  have bp_2 := bp_1.alloc #[.int .i64 0, .int .i64 0, .int .i64 0, .int .i64 0, .int .i64 0, .int .i64 0, .int .i64 0, .int .i64 0] 24
  clear bp_1
  have br_2 := Blk8.newAt (B := (w.heap.size + 1)) (w.alloc (.cells #[.int .i64 y, .int .i64 mo, .int .i64 d, .int .i64 h, .int .i64 mi, .int .i64 s, .int .i64 wd, .int .i64 yd] 24)) (by simp) (.int .i64 0) (.int .i64 0) (.int .i64 0) (.int .i64 0) (.int .i64 0) (.int .i64 0) (.int .i64 0) (.int .i64 0) 24
  clear L1
  refine (HK _).mono ?_
  rintro e w3 ⟨rfl, hb⟩
  have L3 := L2.trans (hb.mono L2.size)
  have bp_3 := bp_2.below hb
  clear bp_2
  have br_3 := br_2.below hb
  clear br_2
  clear hb
  clear L2
  obtain ⟨brlt, brc0, brc1, brc2, brc3, brc4, brc5, brc6, brc7, brfz⟩ := br_3
  go_wp2_with fail
  refine bodyPost_ret (v := .tuple #[civ0, .int .i64 7]) ?_ rfl ⟨rfl, ?_⟩
  · unfold civ0; simp [results, Try.results26, go_sem, brc0, brc1, brc2, brc3, brc4, brc5, brc6, brc7]
  · repeat' (first | (with_reducible exact L3) | (with_reducible refine Below.setCell ?_ ?_ _) | (simp; done))
set_option maxHeartbeats 1000000 in
theorem AddMonths_far2 (y mo d h mi s wd yd n : Int) (hr : Rt y mo d h mi s wd yd) (hn : n < -1099511627776) (w : World) :
    Calls Try.prog 26 #[CV y mo d h mi s wd yd, .int .i64 n] w fun e w' => e = .returned (.tuple #[civ0, .int .i64 7]) ∧ Below w.heap.size w w' := by
  have HK := Check_yes y mo d h mi s wd yd hr
  clear hr
  unfold CV at *
  go_enter Try.func26, Try.ntmps26
  have L0 : Below w.heap.size w w := Below.refl _ _
  go_wp2_with fail
  have L1 : Below w.heap.size w (w.alloc (.cells #[.int .i64 y, .int .i64 mo, .int .i64 d, .int .i64 h, .int .i64 mi, .int .i64 s, .int .i64 wd, .int .i64 yd] 24)) := L0.alloc L0.size _
  have bp_1 := Blk8.new w (.int .i64 y) (.int .i64 mo) (.int .i64 d) (.int .i64 h) (.int .i64 mi) (.int .i64 s) (.int .i64 wd) (.int .i64 yd) 24
  clear L0
  have L2 : Below w.heap.size w ((w.alloc (.cells #[.int .i64 y, .int .i64 mo, .int .i64 d, .int .i64 h, .int .i64 mi, .int .i64 s, .int .i64 wd, .int .i64 yd] 24)).alloc (.cells #[.int .i64 0, .int .i64 0, .int .i64 0, .int .i64 0, .int .i64 0, .int .i64 0, .int .i64 0, .int .i64 0] 24)) := L1.alloc L1.size _
  have bp_2 := bp_1.alloc #[.int .i64 0, .int .i64 0, .int .i64 0, .int .i64 0, .int .i64 0, .int .i64 0, .int .i64 0, .int .i64 0] 24
  clear bp_1
  have br_2 := Blk8.newAt (B := (w.heap.size + 1)) (w.alloc (.cells #[.int .i64 y, .int .i64 mo, .int .i64 d, .int .i64 h, .int .i64 mi, .int .i64 s, .int .i64 wd, .int .i64 yd] 24)) (by simp) (.int .i64 0) (.int .i64 0) (.int .i64 0) (.int .i64 0) (.int .i64 0) (.int .i64 0) (.int .i64 0) (.int .i64 0) 24
  clear L1
  refine (HK _).mono ?_
  rintro e w3 ⟨rfl, hb⟩
  have L3 := L2.trans (hb.mono L2.size)
  have bp_3 := bp_2.below hb
  clear bp_2
  have br_3 := br_2.below hb
  clear br_2
  clear hb
  clear L2
  obtain ⟨brlt, brc0, brc1, brc2, brc3, brc4, brc5, brc6, brc7, brfz⟩ := br_3
  go_wp2_with fail
  refine bodyPost_ret (v := .tuple #[civ0, .int .i64 7]) ?_ rfl ⟨rfl, ?_⟩
  · unfold civ0; simp [results, Try.results26, go_sem, brc0, brc1, brc2, brc3, brc4, brc5, brc6, brc7]
  · repeat' (first | (with_reducible exact L3) | (with_reducible refine Below.setCell ?_ ?_ _) | (simp; done))
set_option maxHeartbeats 1000000 in
theorem AddMonths_out (y mo d h mi s wd yd n : Int) (hr : Rt y mo d h mi s wd yd) (hn1 : -1099511627776 ≤ n) (hn2 : n ≤ 1099511627776) (hy : ¬ (-9999 ≤ (y * 12 + mo - 1 + n) / 12 ∧ (y * 12 + mo - 1 + n) / 12 ≤ 9999)) (w : World) :
    Calls Try.prog 26 #[CV y mo d h mi s wd yd, .int .i64 n] w fun e w' => e = .returned (.tuple #[civ0, .int .i64 7]) ∧ Below w.heap.size w w' := by
  have HK := Check_yes y mo d h mi s wd yd hr
  obtain ⟨h1, h2, h3, h4, h5, h6, h7, h8, g9, g10⟩ := hr
  clear g9 g10
  obtain ⟨k1, k2, k3, k4, k5, k6⟩ := days_in h1 h2
  clear k6
  have SP := fun w => split_any (y * 12 + mo - 1 + n) 12 (by omega) (by omega) (by omega) (by omega) w
  have y1 : -100000000000 ≤ (y * 12 + mo - 1 + n) / 12 := by omega
  have y2 : (y * 12 + mo - 1 + n) / 12 ≤ 100000000000 := by omega
  have m1 : 0 ≤ (y * 12 + mo - 1 + n) % 12 := by omega
  have m2 : (y * 12 + mo - 1 + n) % 12 ≤ 11 := by omega
  generalize (y * 12 + mo - 1 + n) / 12 = Y at *
  generalize (y * 12 + mo - 1 + n) % 12 = m at *
  have HY := Lib.hid hy
  clear hy
  unfold CV at *
  go_enter Try.func26, Try.ntmps26
  have L0 : Below w.heap.size w w := Below.refl _ _
  go_wp2_with fail
  have L1 : Below w.heap.size w (w.alloc (.cells #[.int .i64 y, .int .i64 mo, .int .i64 d, .int .i64 h, .int .i64 mi, .int .i64 s, .int .i64 wd, .int .i64 yd] 24)) := L0.alloc L0.size _
  have bp_1 := Blk8.new w (.int .i64 y) (.int .i64 mo) (.int .i64 d) (.int .i64 h) (.int .i64 mi) (.int .i64 s) (.int .i64 wd) (.int .i64 yd) 24
  clear L0
  have L2 : Below w.heap.size w ((w.alloc (.cells #[.int .i64 y, .int .i64 mo, .int .i64 d, .int .i64 h, .int .i64 mi, .int .i64 s, .int .i64 wd, .int .i64 yd] 24)).alloc (.cells #[.int .i64 0, .int .i64 0, .int .i64 0, .int .i64 0, .int .i64 0, .int .i64 0, .int .i64 0, .int .i64 0] 24)) := L1.alloc L1.size _
  have bp_2 := bp_1.alloc #[.int .i64 0, .int .i64 0, .int .i64 0, .int .i64 0, .int .i64 0, .int .i64 0, .int .i64 0, .int .i64 0] 24
  clear bp_1
  have br_2 := Blk8.newAt (B := (w.heap.size + 1)) (w.alloc (.cells #[.int .i64 y, .int .i64 mo, .int .i64 d, .int .i64 h, .int .i64 mi, .int .i64 s, .int .i64 wd, .int .i64 yd] 24)) (by simp) (.int .i64 0) (.int .i64 0) (.int .i64 0) (.int .i64 0) (.int .i64 0) (.int .i64 0) (.int .i64 0) (.int .i64 0) 24
  clear L1
  refine (HK _).mono ?_
  rintro e w3 ⟨rfl, hb⟩
  have L3 := L2.trans (hb.mono L2.size)
  have bp_3 := bp_2.below hb
  clear bp_2
  have br_3 := br_2.below hb
  clear br_2
  clear hb
  clear L2
  obtain ⟨bplt, bpc0, bpc1, bpc2, bpc3, bpc4, bpc5, bpc6, bpc7, bpfz⟩ := bp_3
  obtain ⟨brlt, brc0, brc1, brc2, brc3, brc4, brc5, brc6, brc7, brfz⟩ := br_3
  go_wp2_with fail
  have bp_3 : Blk8 _ _ _ _ _ _ _ _ _ _ := ⟨bplt, bpc0, bpc1, bpc2, bpc3, bpc4, bpc5, bpc6, bpc7, bpfz⟩
  clear bplt bpc0 bpc1 bpc2 bpc3 bpc4 bpc5 bpc6 bpc7 bpfz
  have br_3 : Blk8 _ _ _ _ _ _ _ _ _ _ := ⟨brlt, brc0, brc1, brc2, brc3, brc4, brc5, brc6, brc7, brfz⟩
  clear brlt brc0 brc1 brc2 brc3 brc4 brc5 brc6 brc7 brfz
  refine (SP _).mono ?_
  rintro e w' ⟨rfl, k4, rfl⟩
  have L4 := blw_drewN L3 k4
  have bp_4 := bp_3.drewN k4
  clear bp_3
  have br_4 := br_3.drewN k4
  clear br_3
  clear L3
  obtain ⟨bplt, bpc0, bpc1, bpc2, bpc3, bpc4, bpc5, bpc6, bpc7, bpfz⟩ := bp_4
  obtain ⟨brlt, brc0, brc1, brc2, brc3, brc4, brc5, brc6, brc7, brfz⟩ := br_4
  go_wp2_with fail
  have bp_4 : Blk8 _ _ _ _ _ _ _ _ _ _ := ⟨bplt, bpc0, bpc1, bpc2, bpc3, bpc4, bpc5, bpc6, bpc7, bpfz⟩
  clear bplt bpc0 bpc1 bpc2 bpc3 bpc4 bpc5 bpc6 bpc7 bpfz
  have br_4 : Blk8 _ _ _ _ _ _ _ _ _ _ := ⟨brlt, brc0, brc1, brc2, brc3, brc4, brc5, brc6, brc7, brfz⟩
  clear brlt brc0 brc1 brc2 brc3 brc4 brc5 brc6 brc7 brfz
  refine (isYear_no Y HY.out _).mono ?_
  rintro e w' ⟨rfl, rfl⟩
  obtain ⟨brlt, brc0, brc1, brc2, brc3, brc4, brc5, brc6, brc7, brfz⟩ := br_4
  go_wp2_with fail
  refine bodyPost_ret (v := .tuple #[civ0, .int .i64 7]) ?_ rfl ⟨rfl, ?_⟩
  · unfold civ0; simp [results, Try.results26, go_sem, brc0, brc1, brc2, brc3, brc4, brc5, brc6, brc7]
  · repeat' (first | (with_reducible exact L4) | (with_reducible refine Below.setCell ?_ ?_ _) | (simp; done))
set_option maxHeartbeats 1000000 in
theorem AddMonths_keep (y mo d h mi s wd yd n : Int) (hr : Rt y mo d h mi s wd yd) (hn1 : -1099511627776 ≤ n) (hn2 : n ≤ 1099511627776) (hy : -9999 ≤ (y * 12 + mo - 1 + n) / 12) (hy2 : (y * 12 + mo - 1 + n) / 12 ≤ 9999) (hd : d ≤ Cal.days ((y * 12 + mo - 1 + n) / 12) ((y * 12 + mo - 1 + n) % 12 + 1)) (w : World) :
    Calls Try.prog 26 #[CV y mo d h mi s wd yd, .int .i64 n] w fun e w' => e = .returned (.tuple #[civ (Cal.num ((y * 12 + mo - 1 + n) / 12) ((y * 12 + mo - 1 + n) % 12 + 1) d) (h * 3600 + mi * 60 + s), .int .i64 0]) ∧ Below w.heap.size w w' := by
  have HK := Check_yes y mo d h mi s wd yd hr
  obtain ⟨h1, h2, h3, h4, h5, h6, h7, h8, g9, g10⟩ := hr
  clear g9 g10
  obtain ⟨k1, k2, k3, k4, k5, k6⟩ := days_in h1 h2
  clear k6
  have SP := fun w => split_any (y * 12 + mo - 1 + n) 12 (by omega) (by omega) (by omega) (by omega) w
  have y1 : -100000000000 ≤ (y * 12 + mo - 1 + n) / 12 := by omega
  have y2 : (y * 12 + mo - 1 + n) / 12 ≤ 100000000000 := by omega
  have m1 : 0 ≤ (y * 12 + mo - 1 + n) % 12 := by omega
  have m2 : (y * 12 + mo - 1 + n) % 12 ≤ 11 := by omega
  generalize (y * 12 + mo - 1 + n) / 12 = Y at *
  generalize (y * 12 + mo - 1 + n) % 12 = m at *
  have HD := dayP Y (m + 1)
  have hdm := Cal.dim_pos Y (m + 1)
  have e : Cal.days Y (m + 1) = Cal.dim Y (m + 1) := if_pos ⟨hy, hy2, by omega, by omega⟩
  have vv : Cal.valid Y (m + 1) d := ⟨by omega, by omega, by omega, by omega⟩
  rw [← e] at hdm
  clear e
  have tn := (Cal.told_num vv).1
  have nb := num_in2 (y := Y) (m := m + 1) (d := d) hy hy2 (by omega) (by omega)
  have HN := number_any Y (m + 1) d (by omega) (by omega) (by omega) (by omega) (by omega) (by omega)
  have HS := second_any y mo d h mi s wd yd h3 h4 h5 h6 h7 h8
  have HT := told_yes (Cal.num Y (m + 1) d) (h * 3600 + mi * 60 + s) (by omega) (by omega) (by omega) (by omega) (by omega) (by omega)
  obtain ⟨c1, c2, c3, c4, c5, c6, c7, c8, E⟩ := civ_ex (Cal.num Y (m + 1) d) (h * 3600 + mi * 60 + s)
  rw [E] at HT
  have HE := Lib.hid E
  clear E tn vv
  generalize Cal.days Y (m + 1) = D at *
  have HN2 : ∀ w : World, Calls Try.prog 36 #[.int .i64 Y, .int .i64 (m + 1), .int .i64 (if D < d then D else d)] w fun e w' => e = .returned (.int .i64 (Cal.num Y (m + 1) d)) ∧ ∃ k, w' = w.drewN k := by
    intro w; rw [if_neg (by omega)]; exact HN w
  have hne : w.heap.size + 1 ≠ w.heap.size := by omega
  generalize hT : h * 3600 + mi * 60 + s = T at *
  clear hT
  unfold CV at *
  go_enter Try.func26, Try.ntmps26
  have L0 : Below w.heap.size w w := Below.refl _ _
  go_wp2_with fail
  have L1 : Below w.heap.size w (w.alloc (.cells #[.int .i64 y, .int .i64 mo, .int .i64 d, .int .i64 h, .int .i64 mi, .int .i64 s, .int .i64 wd, .int .i64 yd] 24)) := L0.alloc L0.size _
  have bp_1 := Blk8.new w (.int .i64 y) (.int .i64 mo) (.int .i64 d) (.int .i64 h) (.int .i64 mi) (.int .i64 s) (.int .i64 wd) (.int .i64 yd) 24
  clear L0
  have L2 : Below w.heap.size w ((w.alloc (.cells #[.int .i64 y, .int .i64 mo, .int .i64 d, .int .i64 h, .int .i64 mi, .int .i64 s, .int .i64 wd, .int .i64 yd] 24)).alloc (.cells #[.int .i64 0, .int .i64 0, .int .i64 0, .int .i64 0, .int .i64 0, .int .i64 0, .int .i64 0, .int .i64 0] 24)) := L1.alloc L1.size _
  have bp_2 := bp_1.alloc #[.int .i64 0, .int .i64 0, .int .i64 0, .int .i64 0, .int .i64 0, .int .i64 0, .int .i64 0, .int .i64 0] 24
  clear bp_1
  have br_2 := Blk8.newAt (B := (w.heap.size + 1)) (w.alloc (.cells #[.int .i64 y, .int .i64 mo, .int .i64 d, .int .i64 h, .int .i64 mi, .int .i64 s, .int .i64 wd, .int .i64 yd] 24)) (by simp) (.int .i64 0) (.int .i64 0) (.int .i64 0) (.int .i64 0) (.int .i64 0) (.int .i64 0) (.int .i64 0) (.int .i64 0) 24
  clear L1
  refine (HK _).mono ?_
  rintro e w3 ⟨rfl, hb⟩
  have L3 := L2.trans (hb.mono L2.size)
  have bp_3 := bp_2.below hb
  clear bp_2
  have br_3 := br_2.below hb
  clear br_2
  clear hb
  clear L2
  obtain ⟨bplt, bpc0, bpc1, bpc2, bpc3, bpc4, bpc5, bpc6, bpc7, bpfz⟩ := bp_3
  obtain ⟨brlt, brc0, brc1, brc2, brc3, brc4, brc5, brc6, brc7, brfz⟩ := br_3
  go_wp2_with fail
  have bp_3 : Blk8 _ _ _ _ _ _ _ _ _ _ := ⟨bplt, bpc0, bpc1, bpc2, bpc3, bpc4, bpc5, bpc6, bpc7, bpfz⟩
  clear bplt bpc0 bpc1 bpc2 bpc3 bpc4 bpc5 bpc6 bpc7 bpfz
  have br_3 : Blk8 _ _ _ _ _ _ _ _ _ _ := ⟨brlt, brc0, brc1, brc2, brc3, brc4, brc5, brc6, brc7, brfz⟩
  clear brlt brc0 brc1 brc2 brc3 brc4 brc5 brc6 brc7 brfz
  refine (SP _).mono ?_
  rintro e w' ⟨rfl, k4, rfl⟩
  have L4 := blw_drewN L3 k4
  have bp_4 := bp_3.drewN k4
  clear bp_3
  have br_4 := br_3.drewN k4
  clear br_3
  clear L3
  obtain ⟨bplt, bpc0, bpc1, bpc2, bpc3, bpc4, bpc5, bpc6, bpc7, bpfz⟩ := bp_4
  obtain ⟨brlt, brc0, brc1, brc2, brc3, brc4, brc5, brc6, brc7, brfz⟩ := br_4
  go_wp2_with fail
  have bp_4 : Blk8 _ _ _ _ _ _ _ _ _ _ := ⟨bplt, bpc0, bpc1, bpc2, bpc3, bpc4, bpc5, bpc6, bpc7, bpfz⟩
  clear bplt bpc0 bpc1 bpc2 bpc3 bpc4 bpc5 bpc6 bpc7 bpfz
  have br_4 : Blk8 _ _ _ _ _ _ _ _ _ _ := ⟨brlt, brc0, brc1, brc2, brc3, brc4, brc5, brc6, brc7, brfz⟩
  clear brlt brc0 brc1 brc2 brc3 brc4 brc5 brc6 brc7 brfz
  refine (isYear_yes Y hy hy2 _).mono ?_
  rintro e w' ⟨rfl, rfl⟩
  obtain ⟨bplt, bpc0, bpc1, bpc2, bpc3, bpc4, bpc5, bpc6, bpc7, bpfz⟩ := bp_4
  obtain ⟨brlt, brc0, brc1, brc2, brc3, brc4, brc5, brc6, brc7, brfz⟩ := br_4
  go_wp2_with fail
  have bp_4 : Blk8 _ _ _ _ _ _ _ _ _ _ := ⟨bplt, bpc0, bpc1, bpc2, bpc3, bpc4, bpc5, bpc6, bpc7, bpfz⟩
  clear bplt bpc0 bpc1 bpc2 bpc3 bpc4 bpc5 bpc6 bpc7 bpfz
  have br_4 : Blk8 _ _ _ _ _ _ _ _ _ _ := ⟨brlt, brc0, brc1, brc2, brc3, brc4, brc5, brc6, brc7, brfz⟩
  clear brlt brc0 brc1 brc2 brc3 brc4 brc5 brc6 brc7 brfz
  have HWR : IntKind.i64.wrap (m + 1) = m + 1 := IntWalk.i64_in _ (by omega)
  generalize (w3.drewN k4) = v6 at *
  obtain ⟨qlt, q0, q1, q2, q3, q4, q5, q6, q7, qf⟩ := bp_4
  obtain ⟨brqlt, brq0, brq1, brq2, brq3, brq4, brq5, brq6, brq7, brqf⟩ := br_4
  go_region_held3 (fun w' => w'.cell? ⟨w.heap.size, 0, none⟩ = some (.int .i64 y) ∧ w'.cell? ⟨w.heap.size, 1, none⟩ = some (.int .i64 mo) ∧ w'.cell? ⟨w.heap.size, 2, none⟩ = some (.int .i64 d) ∧ w'.cell? ⟨w.heap.size, 3, none⟩ = some (.int .i64 h) ∧ w'.cell? ⟨w.heap.size, 4, none⟩ = some (.int .i64 mi) ∧ w'.cell? ⟨w.heap.size, 5, none⟩ = some (.int .i64 s) ∧ w'.cell? ⟨w.heap.size, 6, none⟩ = some (.int .i64 wd) ∧ w'.cell? ⟨w.heap.size, 7, none⟩ = some (.int .i64 yd)) (first | (with_reducible exact ⟨x30, x31, x32, x33, x34, x35, x36, x37⟩) | (with_reducible exact ⟨x20, x21, x22, x23, x24, x25, x26, x27⟩) | (with_reducible exact ⟨x10, x11, x12, x13, x14, x15, x16, x17⟩) | (refine ⟨?_, ?_, ?_, ?_, ?_, ?_, ?_, ?_⟩ <;> (repeat rw [World.cell?_setCell_far _ _ _ _ (by first | exact hne | exact Ne.symm hne)]) <;> with_reducible assumption) | go_keep) ((first | (go_at_call 20; refine (HD _).mono ?_; rintro e ws1 ⟨rfl, hb⟩; obtain ⟨hx, hf⟩ := bcell hb; have x1L := ((blw_drewN L4 _)).trans (hb.mono L4.size); have x1lt := Nat.lt_of_lt_of_le qlt hb.size; have x10 := (hx w.heap.size 0 qlt).trans q0; have x11 := (hx w.heap.size 1 qlt).trans q1; have x12 := (hx w.heap.size 2 qlt).trans q2; have x13 := (hx w.heap.size 3 qlt).trans q3; have x14 := (hx w.heap.size 4 qlt).trans q4; have x15 := (hx w.heap.size 5 qlt).trans q5; have x16 := (hx w.heap.size 6 qlt).trans q6; have x17 := (hx w.heap.size 7 qlt).trans q7; have x1f : ∀ o, ws1.frozen? ⟨w.heap.size, o, none⟩ = false := by { intro o; exact (hf w.heap.size o qlt).trans (qf o) }; have brx1lt := Nat.lt_of_lt_of_le brqlt hb.size; have brx10 := (hx (w.heap.size + 1) 0 brqlt).trans brq0; have brx11 := (hx (w.heap.size + 1) 1 brqlt).trans brq1; have brx12 := (hx (w.heap.size + 1) 2 brqlt).trans brq2; have brx13 := (hx (w.heap.size + 1) 3 brqlt).trans brq3; have brx14 := (hx (w.heap.size + 1) 4 brqlt).trans brq4; have brx15 := (hx (w.heap.size + 1) 5 brqlt).trans brq5; have brx16 := (hx (w.heap.size + 1) 6 brqlt).trans brq6; have brx17 := (hx (w.heap.size + 1) 7 brqlt).trans brq7; have brx1f : ∀ o, ws1.frozen? ⟨(w.heap.size + 1), o, none⟩ = false := by { intro o; exact (hf (w.heap.size + 1) o brqlt).trans (brqf o) }; clear hx hf hb) | (go_at_call 36; refine (HN2 _).mono ?_; rintro e w' ⟨rfl, kk36, rfl⟩) | (go_at_call 41; refine (HS _).mono ?_; rintro e ws2 ⟨rfl, hb⟩; obtain ⟨hx, hf⟩ := bcell hb; have x2L := ((blw_drewN x1L _)).trans (hb.mono x1L.size); have x2lt := Nat.lt_of_lt_of_le x1lt hb.size; have x20 := (hx w.heap.size 0 x1lt).trans x10; have x21 := (hx w.heap.size 1 x1lt).trans x11; have x22 := (hx w.heap.size 2 x1lt).trans x12; have x23 := (hx w.heap.size 3 x1lt).trans x13; have x24 := (hx w.heap.size 4 x1lt).trans x14; have x25 := (hx w.heap.size 5 x1lt).trans x15; have x26 := (hx w.heap.size 6 x1lt).trans x16; have x27 := (hx w.heap.size 7 x1lt).trans x17; have x2f : ∀ o, ws2.frozen? ⟨w.heap.size, o, none⟩ = false := by { intro o; exact (hf w.heap.size o x1lt).trans (x1f o) }; have brx2lt := Nat.lt_of_lt_of_le brx1lt hb.size; have brx20 := (hx (w.heap.size + 1) 0 brx1lt).trans brx10; have brx21 := (hx (w.heap.size + 1) 1 brx1lt).trans brx11; have brx22 := (hx (w.heap.size + 1) 2 brx1lt).trans brx12; have brx23 := (hx (w.heap.size + 1) 3 brx1lt).trans brx13; have brx24 := (hx (w.heap.size + 1) 4 brx1lt).trans brx14; have brx25 := (hx (w.heap.size + 1) 5 brx1lt).trans brx15; have brx26 := (hx (w.heap.size + 1) 6 brx1lt).trans brx16; have brx27 := (hx (w.heap.size + 1) 7 brx1lt).trans brx17; have brx2f : ∀ o, ws2.frozen? ⟨(w.heap.size + 1), o, none⟩ = false := by { intro o; exact (hf (w.heap.size + 1) o brx1lt).trans (brx1f o) }; clear hx hf hb) | (go_at_call 32; refine (HT _).mono ?_; rintro e ws3 ⟨rfl, hb⟩; obtain ⟨hx, hf⟩ := bcell hb; have x3L := (x2L).trans (hb.mono x2L.size); have x3lt := Nat.lt_of_lt_of_le x2lt hb.size; have x30 := (hx w.heap.size 0 x2lt).trans x20; have x31 := (hx w.heap.size 1 x2lt).trans x21; have x32 := (hx w.heap.size 2 x2lt).trans x22; have x33 := (hx w.heap.size 3 x2lt).trans x23; have x34 := (hx w.heap.size 4 x2lt).trans x24; have x35 := (hx w.heap.size 5 x2lt).trans x25; have x36 := (hx w.heap.size 6 x2lt).trans x26; have x37 := (hx w.heap.size 7 x2lt).trans x27; have x3f : ∀ o, ws3.frozen? ⟨w.heap.size, o, none⟩ = false := by { intro o; exact (hf w.heap.size o x2lt).trans (x2f o) }; have brx3lt := Nat.lt_of_lt_of_le brx2lt hb.size; have brx30 := (hx (w.heap.size + 1) 0 brx2lt).trans brx20; have brx31 := (hx (w.heap.size + 1) 1 brx2lt).trans brx21; have brx32 := (hx (w.heap.size + 1) 2 brx2lt).trans brx22; have brx33 := (hx (w.heap.size + 1) 3 brx2lt).trans brx23; have brx34 := (hx (w.heap.size + 1) 4 brx2lt).trans brx24; have brx35 := (hx (w.heap.size + 1) 5 brx2lt).trans brx25; have brx36 := (hx (w.heap.size + 1) 6 brx2lt).trans brx26; have brx37 := (hx (w.heap.size + 1) 7 brx2lt).trans brx27; have brx3f : ∀ o, ws3.frozen? ⟨(w.heap.size + 1), o, none⟩ = false := by { intro o; exact (hf (w.heap.size + 1) o brx2lt).trans (brx2f o) }; clear hx hf hb)))
  clear HWR
  go_wp2_with fail
  refine bodyPost_ret (v := .tuple #[civ (Cal.num Y (m + 1) d) T, .int .i64 0]) ?_ rfl ⟨rfl, ?_⟩
  · rw [HE.out]; simp [results, Try.results26, go_sem, brx30, brx31, brx32, brx33, brx34, brx35, brx36, brx37]
  · repeat' (first | (with_reducible exact x3L) | (with_reducible refine Below.setCell ?_ ?_ _) | (simp; done))
set_option maxHeartbeats 1000000 in
theorem AddMonths_last (y mo d h mi s wd yd n : Int) (hr : Rt y mo d h mi s wd yd) (hn1 : -1099511627776 ≤ n) (hn2 : n ≤ 1099511627776) (hy : -9999 ≤ (y * 12 + mo - 1 + n) / 12) (hy2 : (y * 12 + mo - 1 + n) / 12 ≤ 9999) (hd : ¬ d ≤ Cal.days ((y * 12 + mo - 1 + n) / 12) ((y * 12 + mo - 1 + n) % 12 + 1)) (w : World) :
    Calls Try.prog 26 #[CV y mo d h mi s wd yd, .int .i64 n] w fun e w' => e = .returned (.tuple #[civ (Cal.num ((y * 12 + mo - 1 + n) / 12) ((y * 12 + mo - 1 + n) % 12 + 1) (Cal.days ((y * 12 + mo - 1 + n) / 12) ((y * 12 + mo - 1 + n) % 12 + 1))) (h * 3600 + mi * 60 + s), .int .i64 0]) ∧ Below w.heap.size w w' := by
  have HK := Check_yes y mo d h mi s wd yd hr
  obtain ⟨h1, h2, h3, h4, h5, h6, h7, h8, g9, g10⟩ := hr
  clear g9 g10
  obtain ⟨k1, k2, k3, k4, k5, k6⟩ := days_in h1 h2
  clear k6
  have SP := fun w => split_any (y * 12 + mo - 1 + n) 12 (by omega) (by omega) (by omega) (by omega) w
  have y1 : -100000000000 ≤ (y * 12 + mo - 1 + n) / 12 := by omega
  have y2 : (y * 12 + mo - 1 + n) / 12 ≤ 100000000000 := by omega
  have m1 : 0 ≤ (y * 12 + mo - 1 + n) % 12 := by omega
  have m2 : (y * 12 + mo - 1 + n) % 12 ≤ 11 := by omega
  generalize (y * 12 + mo - 1 + n) / 12 = Y at *
  generalize (y * 12 + mo - 1 + n) % 12 = m at *
  have HD := dayP Y (m + 1)
  have hdm := Cal.dim_pos Y (m + 1)
  have e : Cal.days Y (m + 1) = Cal.dim Y (m + 1) := if_pos ⟨hy, hy2, by omega, by omega⟩
  have vv : Cal.valid Y (m + 1) (Cal.days Y (m + 1)) := ⟨by omega, by omega, by omega, by omega⟩
  rw [← e] at hdm
  clear e
  have tn := (Cal.told_num vv).1
  have nb := num_in2 (y := Y) (m := m + 1) (d := Cal.days Y (m + 1)) hy hy2 (by omega) (by omega)
  have HN := number_any Y (m + 1) (Cal.days Y (m + 1)) (by omega) (by omega) (by omega) (by omega) (by omega) (by omega)
  have HS := second_any y mo d h mi s wd yd h3 h4 h5 h6 h7 h8
  have HT := told_yes (Cal.num Y (m + 1) (Cal.days Y (m + 1))) (h * 3600 + mi * 60 + s) (by omega) (by omega) (by omega) (by omega) (by omega) (by omega)
  obtain ⟨c1, c2, c3, c4, c5, c6, c7, c8, E⟩ := civ_ex (Cal.num Y (m + 1) (Cal.days Y (m + 1))) (h * 3600 + mi * 60 + s)
  rw [E] at HT
  have HE := Lib.hid E
  clear E tn vv
  generalize Cal.days Y (m + 1) = D at *
  have HN2 : ∀ w : World, Calls Try.prog 36 #[.int .i64 Y, .int .i64 (m + 1), .int .i64 (if D < d then D else d)] w fun e w' => e = .returned (.int .i64 (Cal.num Y (m + 1) D)) ∧ ∃ k, w' = w.drewN k := by
    intro w; rw [if_pos (by omega)]; exact HN w
  have hne : w.heap.size + 1 ≠ w.heap.size := by omega
  have HDD := Lib.hid hd
  clear hd
  generalize hT : h * 3600 + mi * 60 + s = T at *
  clear hT
  unfold CV at *
  go_enter Try.func26, Try.ntmps26
  have L0 : Below w.heap.size w w := Below.refl _ _
  go_wp2_with fail
  have L1 : Below w.heap.size w (w.alloc (.cells #[.int .i64 y, .int .i64 mo, .int .i64 d, .int .i64 h, .int .i64 mi, .int .i64 s, .int .i64 wd, .int .i64 yd] 24)) := L0.alloc L0.size _
  have bp_1 := Blk8.new w (.int .i64 y) (.int .i64 mo) (.int .i64 d) (.int .i64 h) (.int .i64 mi) (.int .i64 s) (.int .i64 wd) (.int .i64 yd) 24
  clear L0
  have L2 : Below w.heap.size w ((w.alloc (.cells #[.int .i64 y, .int .i64 mo, .int .i64 d, .int .i64 h, .int .i64 mi, .int .i64 s, .int .i64 wd, .int .i64 yd] 24)).alloc (.cells #[.int .i64 0, .int .i64 0, .int .i64 0, .int .i64 0, .int .i64 0, .int .i64 0, .int .i64 0, .int .i64 0] 24)) := L1.alloc L1.size _
  have bp_2 := bp_1.alloc #[.int .i64 0, .int .i64 0, .int .i64 0, .int .i64 0, .int .i64 0, .int .i64 0, .int .i64 0, .int .i64 0] 24
  clear bp_1
  have br_2 := Blk8.newAt (B := (w.heap.size + 1)) (w.alloc (.cells #[.int .i64 y, .int .i64 mo, .int .i64 d, .int .i64 h, .int .i64 mi, .int .i64 s, .int .i64 wd, .int .i64 yd] 24)) (by simp) (.int .i64 0) (.int .i64 0) (.int .i64 0) (.int .i64 0) (.int .i64 0) (.int .i64 0) (.int .i64 0) (.int .i64 0) 24
  clear L1
  refine (HK _).mono ?_
  rintro e w3 ⟨rfl, hb⟩
  have L3 := L2.trans (hb.mono L2.size)
  have bp_3 := bp_2.below hb
  clear bp_2
  have br_3 := br_2.below hb
  clear br_2
  clear hb
  clear L2
  obtain ⟨bplt, bpc0, bpc1, bpc2, bpc3, bpc4, bpc5, bpc6, bpc7, bpfz⟩ := bp_3
  obtain ⟨brlt, brc0, brc1, brc2, brc3, brc4, brc5, brc6, brc7, brfz⟩ := br_3
  go_wp2_with fail
  have bp_3 : Blk8 _ _ _ _ _ _ _ _ _ _ := ⟨bplt, bpc0, bpc1, bpc2, bpc3, bpc4, bpc5, bpc6, bpc7, bpfz⟩
  clear bplt bpc0 bpc1 bpc2 bpc3 bpc4 bpc5 bpc6 bpc7 bpfz
  have br_3 : Blk8 _ _ _ _ _ _ _ _ _ _ := ⟨brlt, brc0, brc1, brc2, brc3, brc4, brc5, brc6, brc7, brfz⟩
  clear brlt brc0 brc1 brc2 brc3 brc4 brc5 brc6 brc7 brfz
  refine (SP _).mono ?_
  rintro e w' ⟨rfl, k4, rfl⟩
  have L4 := blw_drewN L3 k4
  have bp_4 := bp_3.drewN k4
  clear bp_3
  have br_4 := br_3.drewN k4
  clear br_3
  clear L3
  obtain ⟨bplt, bpc0, bpc1, bpc2, bpc3, bpc4, bpc5, bpc6, bpc7, bpfz⟩ := bp_4
  obtain ⟨brlt, brc0, brc1, brc2, brc3, brc4, brc5, brc6, brc7, brfz⟩ := br_4
  go_wp2_with fail
  have bp_4 : Blk8 _ _ _ _ _ _ _ _ _ _ := ⟨bplt, bpc0, bpc1, bpc2, bpc3, bpc4, bpc5, bpc6, bpc7, bpfz⟩
  clear bplt bpc0 bpc1 bpc2 bpc3 bpc4 bpc5 bpc6 bpc7 bpfz
  have br_4 : Blk8 _ _ _ _ _ _ _ _ _ _ := ⟨brlt, brc0, brc1, brc2, brc3, brc4, brc5, brc6, brc7, brfz⟩
  clear brlt brc0 brc1 brc2 brc3 brc4 brc5 brc6 brc7 brfz
  refine (isYear_yes Y hy hy2 _).mono ?_
  rintro e w' ⟨rfl, rfl⟩
  obtain ⟨bplt, bpc0, bpc1, bpc2, bpc3, bpc4, bpc5, bpc6, bpc7, bpfz⟩ := bp_4
  obtain ⟨brlt, brc0, brc1, brc2, brc3, brc4, brc5, brc6, brc7, brfz⟩ := br_4
  go_wp2_with fail
  have bp_4 : Blk8 _ _ _ _ _ _ _ _ _ _ := ⟨bplt, bpc0, bpc1, bpc2, bpc3, bpc4, bpc5, bpc6, bpc7, bpfz⟩
  clear bplt bpc0 bpc1 bpc2 bpc3 bpc4 bpc5 bpc6 bpc7 bpfz
  have br_4 : Blk8 _ _ _ _ _ _ _ _ _ _ := ⟨brlt, brc0, brc1, brc2, brc3, brc4, brc5, brc6, brc7, brfz⟩
  clear brlt brc0 brc1 brc2 brc3 brc4 brc5 brc6 brc7 brfz
  have HWR : IntKind.i64.wrap (m + 1) = m + 1 := IntWalk.i64_in _ (by omega)
  generalize (w3.drewN k4) = v6 at *
  obtain ⟨qlt, q0, q1, q2, q3, q4, q5, q6, q7, qf⟩ := bp_4
  obtain ⟨brqlt, brq0, brq1, brq2, brq3, brq4, brq5, brq6, brq7, brqf⟩ := br_4
  go_region_held3 (fun w' => w'.cell? ⟨w.heap.size, 0, none⟩ = some (.int .i64 y) ∧ w'.cell? ⟨w.heap.size, 1, none⟩ = some (.int .i64 mo) ∧ w'.cell? ⟨w.heap.size, 2, none⟩ = some (.int .i64 d) ∧ w'.cell? ⟨w.heap.size, 3, none⟩ = some (.int .i64 h) ∧ w'.cell? ⟨w.heap.size, 4, none⟩ = some (.int .i64 mi) ∧ w'.cell? ⟨w.heap.size, 5, none⟩ = some (.int .i64 s) ∧ w'.cell? ⟨w.heap.size, 6, none⟩ = some (.int .i64 wd) ∧ w'.cell? ⟨w.heap.size, 7, none⟩ = some (.int .i64 yd)) (first | (with_reducible exact ⟨x30, x31, x32, x33, x34, x35, x36, x37⟩) | (with_reducible exact ⟨x20, x21, x22, x23, x24, x25, x26, x27⟩) | (with_reducible exact ⟨x10, x11, x12, x13, x14, x15, x16, x17⟩) | (refine ⟨?_, ?_, ?_, ?_, ?_, ?_, ?_, ?_⟩ <;> (repeat rw [World.cell?_setCell_far _ _ _ _ (by first | exact hne | exact Ne.symm hne)]) <;> with_reducible assumption) | go_keep) ((first | (go_at_call 20; refine (HD _).mono ?_; rintro e ws1 ⟨rfl, hb⟩; obtain ⟨hx, hf⟩ := bcell hb; have x1L := ((blw_drewN L4 _)).trans (hb.mono L4.size); have x1lt := Nat.lt_of_lt_of_le qlt hb.size; have x10 := (hx w.heap.size 0 qlt).trans q0; have x11 := (hx w.heap.size 1 qlt).trans q1; have x12 := (hx w.heap.size 2 qlt).trans q2; have x13 := (hx w.heap.size 3 qlt).trans q3; have x14 := (hx w.heap.size 4 qlt).trans q4; have x15 := (hx w.heap.size 5 qlt).trans q5; have x16 := (hx w.heap.size 6 qlt).trans q6; have x17 := (hx w.heap.size 7 qlt).trans q7; have x1f : ∀ o, ws1.frozen? ⟨w.heap.size, o, none⟩ = false := by { intro o; exact (hf w.heap.size o qlt).trans (qf o) }; have brx1lt := Nat.lt_of_lt_of_le brqlt hb.size; have brx10 := (hx (w.heap.size + 1) 0 brqlt).trans brq0; have brx11 := (hx (w.heap.size + 1) 1 brqlt).trans brq1; have brx12 := (hx (w.heap.size + 1) 2 brqlt).trans brq2; have brx13 := (hx (w.heap.size + 1) 3 brqlt).trans brq3; have brx14 := (hx (w.heap.size + 1) 4 brqlt).trans brq4; have brx15 := (hx (w.heap.size + 1) 5 brqlt).trans brq5; have brx16 := (hx (w.heap.size + 1) 6 brqlt).trans brq6; have brx17 := (hx (w.heap.size + 1) 7 brqlt).trans brq7; have brx1f : ∀ o, ws1.frozen? ⟨(w.heap.size + 1), o, none⟩ = false := by { intro o; exact (hf (w.heap.size + 1) o brqlt).trans (brqf o) }; clear hx hf hb) | (go_at_call 36; refine (HN2 _).mono ?_; rintro e w' ⟨rfl, kk36, rfl⟩) | (go_at_call 41; refine (HS _).mono ?_; rintro e ws2 ⟨rfl, hb⟩; obtain ⟨hx, hf⟩ := bcell hb; have x2L := ((blw_drewN x1L _)).trans (hb.mono x1L.size); have x2lt := Nat.lt_of_lt_of_le x1lt hb.size; have x20 := (hx w.heap.size 0 x1lt).trans x10; have x21 := (hx w.heap.size 1 x1lt).trans x11; have x22 := (hx w.heap.size 2 x1lt).trans x12; have x23 := (hx w.heap.size 3 x1lt).trans x13; have x24 := (hx w.heap.size 4 x1lt).trans x14; have x25 := (hx w.heap.size 5 x1lt).trans x15; have x26 := (hx w.heap.size 6 x1lt).trans x16; have x27 := (hx w.heap.size 7 x1lt).trans x17; have x2f : ∀ o, ws2.frozen? ⟨w.heap.size, o, none⟩ = false := by { intro o; exact (hf w.heap.size o x1lt).trans (x1f o) }; have brx2lt := Nat.lt_of_lt_of_le brx1lt hb.size; have brx20 := (hx (w.heap.size + 1) 0 brx1lt).trans brx10; have brx21 := (hx (w.heap.size + 1) 1 brx1lt).trans brx11; have brx22 := (hx (w.heap.size + 1) 2 brx1lt).trans brx12; have brx23 := (hx (w.heap.size + 1) 3 brx1lt).trans brx13; have brx24 := (hx (w.heap.size + 1) 4 brx1lt).trans brx14; have brx25 := (hx (w.heap.size + 1) 5 brx1lt).trans brx15; have brx26 := (hx (w.heap.size + 1) 6 brx1lt).trans brx16; have brx27 := (hx (w.heap.size + 1) 7 brx1lt).trans brx17; have brx2f : ∀ o, ws2.frozen? ⟨(w.heap.size + 1), o, none⟩ = false := by { intro o; exact (hf (w.heap.size + 1) o brx1lt).trans (brx1f o) }; clear hx hf hb) | (go_at_call 32; refine (HT _).mono ?_; rintro e ws3 ⟨rfl, hb⟩; obtain ⟨hx, hf⟩ := bcell hb; have x3L := (x2L).trans (hb.mono x2L.size); have x3lt := Nat.lt_of_lt_of_le x2lt hb.size; have x30 := (hx w.heap.size 0 x2lt).trans x20; have x31 := (hx w.heap.size 1 x2lt).trans x21; have x32 := (hx w.heap.size 2 x2lt).trans x22; have x33 := (hx w.heap.size 3 x2lt).trans x23; have x34 := (hx w.heap.size 4 x2lt).trans x24; have x35 := (hx w.heap.size 5 x2lt).trans x25; have x36 := (hx w.heap.size 6 x2lt).trans x26; have x37 := (hx w.heap.size 7 x2lt).trans x27; have x3f : ∀ o, ws3.frozen? ⟨w.heap.size, o, none⟩ = false := by { intro o; exact (hf w.heap.size o x2lt).trans (x2f o) }; have brx3lt := Nat.lt_of_lt_of_le brx2lt hb.size; have brx30 := (hx (w.heap.size + 1) 0 brx2lt).trans brx20; have brx31 := (hx (w.heap.size + 1) 1 brx2lt).trans brx21; have brx32 := (hx (w.heap.size + 1) 2 brx2lt).trans brx22; have brx33 := (hx (w.heap.size + 1) 3 brx2lt).trans brx23; have brx34 := (hx (w.heap.size + 1) 4 brx2lt).trans brx24; have brx35 := (hx (w.heap.size + 1) 5 brx2lt).trans brx25; have brx36 := (hx (w.heap.size + 1) 6 brx2lt).trans brx26; have brx37 := (hx (w.heap.size + 1) 7 brx2lt).trans brx27; have brx3f : ∀ o, ws3.frozen? ⟨(w.heap.size + 1), o, none⟩ = false := by { intro o; exact (hf (w.heap.size + 1) o brx2lt).trans (brx2f o) }; clear hx hf hb)))
  clear HWR
  go_wp2_with fail
  refine bodyPost_ret (v := .tuple #[civ (Cal.num Y (m + 1) D) T, .int .i64 0]) ?_ rfl ⟨rfl, ?_⟩
  · rw [HE.out]; simp [results, Try.results26, go_sem, brx30, brx31, brx32, brx33, brx34, brx35, brx36, brx37]
  · repeat' (first | (with_reducible exact x3L) | (with_reducible refine Below.setCell ?_ ?_ _) | (simp; done))
end Go.Proofs.Ytafoodfbjebdcaa
