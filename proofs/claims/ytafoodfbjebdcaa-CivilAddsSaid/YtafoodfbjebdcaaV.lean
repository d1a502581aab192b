/-
  CivilBack's walk: the law returns true for every civil and number. Conditions: each number fits its kind.
-/
import Derived.Test.YtafoodfbjebdcaaP
import Derived.WalkKit
import Derived.ProofKit
import Derived.OpenShut
import Derived.Deep.QuietTactic
import Derived.BigQuiet
import Derived.Lib.Hide
import Derived.WalkLawsBesides
import Derived.Lib.QuietBelow
namespace Go.Proofs.Ytafoodfbjebdcaa
open Go.ChangeShapes Go.WideShapes Go.ChangeAt Go.RowKit
theorem civ_rt (n s : Int) (hy : -9999 ≤ Cal.Year n) (hy2 : Cal.Year n ≤ 9999) (s0 : 0 ≤ s) (s1 : s < 86400) :
    Rt (Cal.Year n) (Cal.Month n) (Cal.Day n) (s / 3600) (s / 60 % 60) (s % 60) ((n + 4) % 7) (n - Cal.num (Cal.Year n) 1 1 + 1) := by
  obtain ⟨v, e⟩ := Cal.told_ok n
  obtain ⟨v1, v2, v3, v4⟩ := v
  have ed : Cal.days (Cal.Year n) (Cal.Month n) = Cal.dim (Cal.Year n) (Cal.Month n) := if_pos ⟨hy, hy2, v1, v2⟩
  unfold Rt
  rw [e, ed]
  refine ⟨v3, v4, by omega, by omega, by omega, by omega, by omega, by omega, rfl, rfl⟩
theorem Rt_inj {y mo d h mi s wd yd y' mo' d' h' mi' s' wd' yd' : Int} (r : Rt y mo d h mi s wd yd) (r' : Rt y' mo' d' h' mi' s' wd' yd')
    (e : Cal.num y mo d = Cal.num y' mo' d') (t : h * 3600 + mi * 60 + s = h' * 3600 + mi' * 60 + s') :
    CV y mo d h mi s wd yd = CV y' mo' d' h' mi' s' wd' yd' := by
  obtain ⟨h1, h2, h3, h4, h5, h6, h7, h8, rfl, rfl⟩ := r
  obtain ⟨g1, g2, g3, g4, g5, g6, g7, g8, rfl, rfl⟩ := r'
  obtain ⟨rfl, rfl, rfl⟩ := Cal.num_inj (days_in h1 h2).2.2.2.2.2 (days_in g1 g2).2.2.2.2.2 e
  obtain rfl : h = h' := by omega
  obtain rfl : mi = mi' := by omega
  obtain rfl : s = s' := by omega
  rfl
theorem Rt_num {y mo d h mi s wd yd : Int} (r : Rt y mo d h mi s wd yd) : -9999 ≤ y ∧ y ≤ 9999 ∧ 1 ≤ mo ∧ mo ≤ 12 ∧ 1 ≤ d ∧ d ≤ 31 ∧ -5000000 ≤ Cal.num y mo d ∧ Cal.num y mo d ≤ 5000000 ∧ Cal.Year (Cal.num y mo d) = y ∧ 0 ≤ h * 3600 + mi * 60 + s ∧ h * 3600 + mi * 60 + s < 86400 := by
  obtain ⟨h1, h2, h3, h4, h5, h6, h7, h8, rfl, rfl⟩ := r
  obtain ⟨k1, k2, k3, k4, k5, k6⟩ := days_in h1 h2
  obtain ⟨n1, n2⟩ := num_in2 (m := mo) k1 k2 h1 k5
  exact ⟨k1, k2, k3, k4, h1, k5, n1, n2, (Cal.told_num k6).1, by omega, by omega⟩
/-- the civil that comes so many days later -/
theorem AddDays_to (y mo d h mi s wd yd n : Int) (hr : Rt y mo d h mi s wd yd) (hn1 : -1099511627776 ≤ n) (hn2 : n ≤ 1099511627776) (hy : -9999 ≤ Cal.Year (Cal.num y mo d + n)) (hy2 : Cal.Year (Cal.num y mo d + n) ≤ 9999) :
    ∃ a1 a2 a3 a4 a5 a6 a7 a8 : Int, Rt a1 a2 a3 a4 a5 a6 a7 a8 ∧ Cal.num a1 a2 a3 = Cal.num y mo d + n ∧ a4 * 3600 + a5 * 60 + a6 = h * 3600 + mi * 60 + s ∧
      ∀ w : World, Calls Try.prog 25 #[CV y mo d h mi s wd yd, .int .i64 n] w fun e w' => e = .returned (.tuple #[CV a1 a2 a3 a4 a5 a6 a7 a8, .int .i64 0]) ∧ Below w.heap.size w w' := by
  have q := Rt_num hr
  exact ⟨_, _, _, _, _, _, _, _, civ_rt (Cal.num y mo d + n) (h * 3600 + mi * 60 + s) hy hy2 (by omega) (by omega), (Cal.told_ok _).2, by omega, fun w => AddDays_ok y mo d h mi s wd yd n hr hn1 hn2 hy hy2 w⟩
theorem AddDays_back (y mo d h mi s wd yd n : Int) (hr : Rt y mo d h mi s wd yd) (hn1 : -1099511627776 ≤ n) (hn2 : n ≤ 1099511627776) (a1 a2 a3 a4 a5 a6 a7 a8 : Int) (ha : Rt a1 a2 a3 a4 a5 a6 a7 a8) (hn : Cal.num a1 a2 a3 = Cal.num y mo d + n) (ht : a4 * 3600 + a5 * 60 + a6 = h * 3600 + mi * 60 + s) (w : World) :
    Calls Try.prog 25 #[CV a1 a2 a3 a4 a5 a6 a7 a8, .int .i64 (-n)] w fun e w' => e = .returned (.tuple #[CV y mo d h mi s wd yd, .int .i64 0]) ∧ Below w.heap.size w w' := by
  have q := Rt_num hr
  have e0 : Cal.num a1 a2 a3 + -n = Cal.num y mo d := by omega
  have ey : Cal.Year (Cal.num a1 a2 a3 + -n) = y := by rw [e0]; omega
  obtain ⟨b1, b2, b3, b4, b5, b6, b7, b8, rb, nb, tb, H⟩ := AddDays_to a1 a2 a3 a4 a5 a6 a7 a8 (-n) ha (by omega) (by omega) (by omega) (by omega)
  rw [Rt_inj rb hr (by omega) (by omega)] at H
  exact H w
set_option maxHeartbeats 1000000 in
theorem CivilBack_no (y mo d h mi s wd yd n : Int) (k : Int) (hk : (k == 0) = false) (HA : ∀ w : World, Calls Try.prog 25 #[CV y mo d h mi s wd yd, .int .i64 n] w fun e w' => e = .returned (.tuple #[civ0, .int .i64 k]) ∧ Below w.heap.size w w') (w : World) :
    Calls Try.prog 7 #[CV y mo d h mi s wd yd, .int .i64 n] w fun e w' => e = .returned (.bool true) ∧ Below w.heap.size w w' := by
  unfold civ0 at HA
  unfold CV at *
  go_enter Try.func7, Try.ntmps7
  have L0 : Below w.heap.size w w := Below.refl _ _
  go_wp2_with fail
  have L1 : Below w.heap.size w (w.alloc (.cells #[.int .i64 y, .int .i64 mo, .int .i64 d, .int .i64 h, .int .i64 mi, .int .i64 s, .int .i64 wd, .int .i64 yd] 24)) := L0.alloc L0.size _
  have bp_1 := Blk8.new w (.int .i64 y) (.int .i64 mo) (.int .i64 d) (.int .i64 h) (.int .i64 mi) (.int .i64 s) (.int .i64 wd) (.int .i64 yd) 24
  clear L0
  refine (wakes_any _).mono ?_
  rintro e w2 ⟨rfl, hb⟩
  have L2 := L1.trans (hb.mono L1.size)
  have bp_2 := bp_1.below hb
  clear bp_1
  clear hb
  clear L1
  obtain ⟨bplt, bpc0, bpc1, bpc2, bpc3, bpc4, bpc5, bpc6, bpc7, bpfz⟩ := bp_2
  go_wp2_with fail
  have bp_2 : Blk8 _ _ _ _ _ _ _ _ _ _ := ⟨bplt, bpc0, bpc1, bpc2, bpc3, bpc4, bpc5, bpc6, bpc7, bpfz⟩
  clear bplt bpc0 bpc1 bpc2 bpc3 bpc4 bpc5 bpc6 bpc7 bpfz
  refine (HA _).mono ?_
  rintro e w3 ⟨rfl, hb⟩
  have L3 := L2.trans (hb.mono L2.size)
  have bp_3 := bp_2.below hb
  clear bp_2
  clear hb
  clear L2
  obtain ⟨bplt, bpc0, bpc1, bpc2, bpc3, bpc4, bpc5, bpc6, bpc7, bpfz⟩ := bp_3
  go_wp2_with fail
  have bp_3 : Blk8 _ _ _ _ _ _ _ _ _ _ := ⟨bplt, bpc0, bpc1, bpc2, bpc3, bpc4, bpc5, bpc6, bpc7, bpfz⟩
  clear bplt bpc0 bpc1 bpc2 bpc3 bpc4 bpc5 bpc6 bpc7 bpfz
  have L4 : Below w.heap.size w (w3.alloc (.cells #[.int .i64 0, .int .i64 0, .int .i64 0, .int .i64 0, .int .i64 0, .int .i64 0, .int .i64 0, .int .i64 0] 24)) := L3.alloc L3.size _
  have bp_4 := bp_3.alloc #[.int .i64 0, .int .i64 0, .int .i64 0, .int .i64 0, .int .i64 0, .int .i64 0, .int .i64 0, .int .i64 0] 24
  clear bp_3
  have ba_4 := Blk8.new w3 (.int .i64 0) (.int .i64 0) (.int .i64 0) (.int .i64 0) (.int .i64 0) (.int .i64 0) (.int .i64 0) (.int .i64 0) 24
  clear L3
  go_ret
  exact ⟨rfl, L4⟩
set_option maxHeartbeats 1000000 in
theorem CivilBack_ok (y mo d h mi s wd yd n : Int) (hr : Rt y mo d h mi s wd yd) (hn1 : -1099511627776 ≤ n) (hn2 : n ≤ 1099511627776) (hy : -9999 ≤ Cal.Year (Cal.num y mo d + n)) (hy2 : Cal.Year (Cal.num y mo d + n) ≤ 9999) (w : World) :
    Calls Try.prog 7 #[CV y mo d h mi s wd yd, .int .i64 n] w fun e w' => e = .returned (.bool true) ∧ Below w.heap.size w w' := by
  obtain ⟨a1, a2, a3, a4, a5, a6, a7, a8, ra, na, ta, HA⟩ := AddDays_to y mo d h mi s wd yd n hr hn1 hn2 hy hy2
  clear hy hy2
  have HB := AddDays_back y mo d h mi s wd yd n hr hn1 hn2 a1 a2 a3 a4 a5 a6 a7 a8 ra na ta
  have HC := Seconds_ok y mo d h mi s wd yd 0 hr (by omega) (by omega)
  have HD := Seconds_ok a1 a2 a3 a4 a5 a6 a7 a8 0 ra (by omega) (by omega)
  have q1 := Rt_num hr
  have q2 := Rt_num ra
  obtain ⟨h1, h2, h3, h4, h5, h6, h7, h8, rfl, rfl⟩ := hr
  obtain ⟨g1, g2, g3, g4, g5, g6, g7, g8, rfl, rfl⟩ := ra
  have wk := CivT.wk ((Cal.num y mo d + 4) % 7 + n)
  have e7 : ((Cal.num y mo d + 4) % 7 + n) % 7 = (Cal.num a1 a2 a3 + 4) % 7 := by omega
  have HF : Hid (Ending.returned (Value.bool (((Cal.num y mo d + 4) % 7 + n) % 7 == (Cal.num a1 a2 a3 + 4) % 7)) = .returned (.bool true)) := Lib.hid (by rw [e7, beq_self_eq_true])
  have p1 : -5000000 ≤ Cal.num y mo d := by omega
  have p2 : Cal.num y mo d ≤ 5000000 := by omega
  have p3 : -5000000 ≤ Cal.num a1 a2 a3 := by omega
  have p4 : Cal.num a1 a2 a3 ≤ 5000000 := by omega
  have r1 : n ≤ Cal.num a1 a2 a3 - Cal.num y mo d := by omega
  have r2 : Cal.num a1 a2 a3 - Cal.num y mo d ≤ n := by omega
  have t1 : a4 * 3600 + a5 * 60 + a6 ≤ h * 3600 + mi * 60 + s := by omega
  have t2 : h * 3600 + mi * 60 + s ≤ a4 * 3600 + a5 * 60 + a6 := by omega
  have t3 : 0 ≤ h * 3600 + mi * 60 + s := by omega
  have t4 : h * 3600 + mi * 60 + s < 86400 := by omega
  obtain ⟨_, wk2, wk3⟩ := wk
  clear q1 q2 na ta e7 h1 h2 h3 h4 h5 h6 h7 h8 g1 g2 g3 g4 g5 g6 g7 g8
  have w0 : 0 ≤ (Cal.num y mo d + 4) % 7 := by omega
  have w1 : (Cal.num y mo d + 4) % 7 < 7 := by omega
  generalize Cal.num y mo d - Cal.num y 1 1 + 1 = yd at *
  generalize Cal.num a1 a2 a3 - Cal.num a1 1 1 + 1 = a8 at *
  generalize (Cal.num y mo d + 4) % 7 = wd at *
  generalize (Cal.num a1 a2 a3 + 4) % 7 = a7 at *
  generalize Cal.num y mo d = X at *
  generalize Cal.num a1 a2 a3 = U at *
  generalize h * 3600 + mi * 60 + s = T at *
  generalize a4 * 3600 + a5 * 60 + a6 = S at *
  unfold CV at *
  go_enter Try.func7, Try.ntmps7
  have L0 : Below w.heap.size w w := Below.refl _ _
  go_wp2_with fail
  have L1 : Below w.heap.size w (w.alloc (.cells #[.int .i64 y, .int .i64 mo, .int .i64 d, .int .i64 h, .int .i64 mi, .int .i64 s, .int .i64 wd, .int .i64 yd] 24)) := L0.alloc L0.size _
  have bp_1 := Blk8.new w (.int .i64 y) (.int .i64 mo) (.int .i64 d) (.int .i64 h) (.int .i64 mi) (.int .i64 s) (.int .i64 wd) (.int .i64 yd) 24
  clear L0
  refine (wakes_any _).mono ?_
  rintro e w2 ⟨rfl, hb⟩
  have L2 := L1.trans (hb.mono L1.size)
  have bp_2 := bp_1.below hb
  clear bp_1
  clear hb
  clear L1
  obtain ⟨bplt, bpc0, bpc1, bpc2, bpc3, bpc4, bpc5, bpc6, bpc7, bpfz⟩ := bp_2
  go_wp2_with fail
  have bp_2 : Blk8 _ _ _ _ _ _ _ _ _ _ := ⟨bplt, bpc0, bpc1, bpc2, bpc3, bpc4, bpc5, bpc6, bpc7, bpfz⟩
  clear bplt bpc0 bpc1 bpc2 bpc3 bpc4 bpc5 bpc6 bpc7 bpfz
  refine (HA _).mono ?_
  rintro e w3 ⟨rfl, hb⟩
  have L3 := L2.trans (hb.mono L2.size)
  have bp_3 := bp_2.below hb
  clear bp_2
  clear hb
  clear L2
  obtain ⟨bplt, bpc0, bpc1, bpc2, bpc3, bpc4, bpc5, bpc6, bpc7, bpfz⟩ := bp_3
  go_wp2_with fail
  have bp_3 : Blk8 _ _ _ _ _ _ _ _ _ _ := ⟨bplt, bpc0, bpc1, bpc2, bpc3, bpc4, bpc5, bpc6, bpc7, bpfz⟩
  clear bplt bpc0 bpc1 bpc2 bpc3 bpc4 bpc5 bpc6 bpc7 bpfz
  have L4 : Below w.heap.size w (w3.alloc (.cells #[.int .i64 a1, .int .i64 a2, .int .i64 a3, .int .i64 a4, .int .i64 a5, .int .i64 a6, .int .i64 a7, .int .i64 a8] 24)) := L3.alloc L3.size _
  have bp_4 := bp_3.alloc #[.int .i64 a1, .int .i64 a2, .int .i64 a3, .int .i64 a4, .int .i64 a5, .int .i64 a6, .int .i64 a7, .int .i64 a8] 24
  clear bp_3
  have ba_4 := Blk8.new w3 (.int .i64 a1) (.int .i64 a2) (.int .i64 a3) (.int .i64 a4) (.int .i64 a5) (.int .i64 a6) (.int .i64 a7) (.int .i64 a8) 24
  clear L3
  refine (HB _).mono ?_
  rintro e w5 ⟨rfl, hb⟩
  have L5 := L4.trans (hb.mono L4.size)
  have bp_5 := bp_4.below hb
  clear bp_4
  have ba_5 := ba_4.below hb
  clear ba_4
  clear hb
  clear L4
  obtain ⟨bplt, bpc0, bpc1, bpc2, bpc3, bpc4, bpc5, bpc6, bpc7, bpfz⟩ := bp_5
  obtain ⟨balt, bac0, bac1, bac2, bac3, bac4, bac5, bac6, bac7, bafz⟩ := ba_5
  go_wp2_with fail
  have bp_5 : Blk8 _ _ _ _ _ _ _ _ _ _ := ⟨bplt, bpc0, bpc1, bpc2, bpc3, bpc4, bpc5, bpc6, bpc7, bpfz⟩
  clear bplt bpc0 bpc1 bpc2 bpc3 bpc4 bpc5 bpc6 bpc7 bpfz
  have ba_5 : Blk8 _ _ _ _ _ _ _ _ _ _ := ⟨balt, bac0, bac1, bac2, bac3, bac4, bac5, bac6, bac7, bafz⟩
  clear balt bac0 bac1 bac2 bac3 bac4 bac5 bac6 bac7 bafz
  have L6 : Below w.heap.size w (w5.alloc (.cells #[.int .i64 y, .int .i64 mo, .int .i64 d, .int .i64 h, .int .i64 mi, .int .i64 s, .int .i64 wd, .int .i64 yd] 24)) := L5.alloc L5.size _
  have bp_6 := bp_5.alloc #[.int .i64 y, .int .i64 mo, .int .i64 d, .int .i64 h, .int .i64 mi, .int .i64 s, .int .i64 wd, .int .i64 yd] 24
  clear bp_5
  have ba_6 := ba_5.alloc #[.int .i64 y, .int .i64 mo, .int .i64 d, .int .i64 h, .int .i64 mi, .int .i64 s, .int .i64 wd, .int .i64 yd] 24
  clear ba_5
  have bb_6 := Blk8.new w5 (.int .i64 y) (.int .i64 mo) (.int .i64 d) (.int .i64 h) (.int .i64 mi) (.int .i64 s) (.int .i64 wd) (.int .i64 yd) 24
  clear L5
  refine (HC _).mono ?_
  rintro e w7 ⟨rfl, hb⟩
  have L7 := L6.trans (hb.mono L6.size)
  have bp_7 := bp_6.below hb
  clear bp_6
  have ba_7 := ba_6.below hb
  clear ba_6
  have bb_7 := bb_6.below hb
  clear bb_6
  clear hb
  clear L6
  obtain ⟨bplt, bpc0, bpc1, bpc2, bpc3, bpc4, bpc5, bpc6, bpc7, bpfz⟩ := bp_7
  obtain ⟨balt, bac0, bac1, bac2, bac3, bac4, bac5, bac6, bac7, bafz⟩ := ba_7
  obtain ⟨bblt, bbc0, bbc1, bbc2, bbc3, bbc4, bbc5, bbc6, bbc7, bbfz⟩ := bb_7
  go_wp2_with fail
  have bp_7 : Blk8 _ _ _ _ _ _ _ _ _ _ := ⟨bplt, bpc0, bpc1, bpc2, bpc3, bpc4, bpc5, bpc6, bpc7, bpfz⟩
  clear bplt bpc0 bpc1 bpc2 bpc3 bpc4 bpc5 bpc6 bpc7 bpfz
  have ba_7 : Blk8 _ _ _ _ _ _ _ _ _ _ := ⟨balt, bac0, bac1, bac2, bac3, bac4, bac5, bac6, bac7, bafz⟩
  clear balt bac0 bac1 bac2 bac3 bac4 bac5 bac6 bac7 bafz
  have bb_7 : Blk8 _ _ _ _ _ _ _ _ _ _ := ⟨bblt, bbc0, bbc1, bbc2, bbc3, bbc4, bbc5, bbc6, bbc7, bbfz⟩
  clear bblt bbc0 bbc1 bbc2 bbc3 bbc4 bbc5 bbc6 bbc7 bbfz
  refine (HD _).mono ?_
  rintro e w8 ⟨rfl, hb⟩
  have L8 := L7.trans (hb.mono L7.size)
  have bp_8 := bp_7.below hb
  clear bp_7
  have ba_8 := ba_7.below hb
  clear ba_7
  have bb_8 := bb_7.below hb
  clear bb_7
  clear hb
  clear L7
  obtain ⟨bplt, bpc0, bpc1, bpc2, bpc3, bpc4, bpc5, bpc6, bpc7, bpfz⟩ := bp_8
  obtain ⟨balt, bac0, bac1, bac2, bac3, bac4, bac5, bac6, bac7, bafz⟩ := ba_8
  go_wp2_with fail
  have bp_8 : Blk8 _ _ _ _ _ _ _ _ _ _ := ⟨bplt, bpc0, bpc1, bpc2, bpc3, bpc4, bpc5, bpc6, bpc7, bpfz⟩
  clear bplt bpc0 bpc1 bpc2 bpc3 bpc4 bpc5 bpc6 bpc7 bpfz
  have ba_8 : Blk8 _ _ _ _ _ _ _ _ _ _ := ⟨balt, bac0, bac1, bac2, bac3, bac4, bac5, bac6, bac7, bafz⟩
  clear balt bac0 bac1 bac2 bac3 bac4 bac5 bac6 bac7 bafz
  go_ret
  exact ⟨HF.out, L8⟩
theorem CivilBack_walk (y mo d h mi s wd yd n : Int) (_b0 : -9223372036854775808 ≤ y) (_b0' : y ≤ 9223372036854775807) (_b1 : -9223372036854775808 ≤ mo) (_b1' : mo ≤ 9223372036854775807) (_b2 : -9223372036854775808 ≤ d) (_b2' : d ≤ 9223372036854775807) (_b3 : -9223372036854775808 ≤ h) (_b3' : h ≤ 9223372036854775807) (_b4 : -9223372036854775808 ≤ mi) (_b4' : mi ≤ 9223372036854775807) (_b5 : -9223372036854775808 ≤ s) (_b5' : s ≤ 9223372036854775807) (_b6 : -9223372036854775808 ≤ wd) (_b6' : wd ≤ 9223372036854775807) (_b7 : -9223372036854775808 ≤ yd) (_b7' : yd ≤ 9223372036854775807) (_b8 : -9223372036854775808 ≤ n) (_b8' : n ≤ 9223372036854775807) (w : World) :
    Calls Try.prog 7 #[.agg #[.int .i64 y, .int .i64 mo, .int .i64 d, .int .i64 h, .int .i64 mi, .int .i64 s, .int .i64 wd, .int .i64 yd], .int .i64 n] w fun e w' => e = .returned (.bool true) ∧ Below w.heap.size w w' := by
  change Calls Try.prog 7 #[CV y mo d h mi s wd yd, .int .i64 n] w _
  by_cases hr : Rt y mo d h mi s wd yd
  · by_cases t0 : 1099511627776 < n
    · exact CivilBack_no y mo d h mi s wd yd n 7 rfl (AddDays_far1 y mo d h mi s wd yd n hr t0) w
    · by_cases t1 : n < -1099511627776
      · exact CivilBack_no y mo d h mi s wd yd n 7 rfl (AddDays_far2 y mo d h mi s wd yd n hr t1) w
      · by_cases hy : -9999 ≤ Cal.Year (Cal.num y mo d + n) ∧ Cal.Year (Cal.num y mo d + n) ≤ 9999
        · exact CivilBack_ok y mo d h mi s wd yd n hr (by omega) (by omega) hy.1 hy.2 w
        · exact CivilBack_no y mo d h mi s wd yd n 7 rfl (AddDays_out y mo d h mi s wd yd n hr (by omega) (by omega) hy) w
  · exact CivilBack_no y mo d h mi s wd yd n 2 rfl (AddDays_bad y mo d h mi s wd yd n hr) w
end Go.Proofs.Ytafoodfbjebdcaa
