/-
  CivilAdds' walk: the law returns true for every civil and numbers. Conditions: each number fits its kind.
-/
import Derived.Test.YtafoodfbjebdcaaV
import Derived.Test.YtafoodfbjebdcaaZd
import Derived.Test.YtafoodfbjebdcaaM
import Derived.Test.YtafoodfbjebdcaaS
import Derived.WalkKit
import Derived.ProofKit
import Derived.OpenShut
import Derived.Deep.QuietTactic
import Derived.BigQuiet
import Derived.Lib.Hide
import Derived.WalkLawsBesides
import Derived.Lib.QuietBelow
import Derived.Deep.RegionHeld3
import Derived.Deep.DrawnRows
import Derived.Deep.DeepCutAuto
import Derived.IntWalk
namespace Go.Proofs.Ytafoodfbjebdcaa
attribute [local go_sem ↓] Go.wp_at_zero Go.wp_at_succ
open Go.ChangeShapes Go.WideShapes Go.ChangeAt Go.RowKit
set_option maxRecDepth 100000 in
set_option maxHeartbeats 2000000 in
theorem CivilAdds_bad (y mo d hh mi s wd yd n k : Int) (hr : ¬ Rt y mo d hh mi s wd yd) (w : World) :
    Calls Try.prog 8 #[CV y mo d hh mi s wd yd, .int .i64 n, .int .i64 k] w fun e w' => e = .returned (.bool true) ∧ Below w.heap.size w w' := by
  have HA := AddDays_bad y mo d hh mi s wd yd n hr
  have HM := AddMonths_bad y mo d hh mi s wd yd k hr
  have HR := RightNo y mo d hh mi s wd yd hr
  clear hr
  unfold CV civ0 at *
  go_enter Try.func8, Try.ntmps8
  have L0 : Below w.heap.size w w := Below.refl _ _
  go_wp2_with fail
  have L1 : Below w.heap.size w (w.alloc (.cells #[.int .i64 y, .int .i64 mo, .int .i64 d, .int .i64 hh, .int .i64 mi, .int .i64 s, .int .i64 wd, .int .i64 yd] 24)) := L0.alloc L0.size _
  have bp_1 := Blk8.new w (.int .i64 y) (.int .i64 mo) (.int .i64 d) (.int .i64 hh) (.int .i64 mi) (.int .i64 s) (.int .i64 wd) (.int .i64 yd) 24
  clear L0
  refine (wakes_any _).mono ?_
  rintro e w2 ⟨rfl, hb⟩
  have L2 := L1.trans (hb.mono L1.size)
  have bp_2 := bp_1.below hb
  clear bp_1
  clear hb
  clear L1
  obtain ⟨bplt, bpc0, bpc1, bpc2, bpc3, bpc4, bpc5, bpc6, bpc7, bpfz⟩ := bp_2
  go_wp2_with fail
  have bp_2 : Blk8 _ _ _ _ _ _ _ _ _ _ := ⟨bplt, bpc0, bpc1, bpc2, bpc3, bpc4, bpc5, bpc6, bpc7, bpfz⟩
  clear bplt bpc0 bpc1 bpc2 bpc3 bpc4 bpc5 bpc6 bpc7 bpfz
  refine (HA _).mono ?_
  rintro e w3 ⟨rfl, hb⟩
  have L3 := L2.trans (hb.mono L2.size)
  have bp_3 := bp_2.below hb
  clear bp_2
  clear hb
  clear L2
  obtain ⟨bplt, bpc0, bpc1, bpc2, bpc3, bpc4, bpc5, bpc6, bpc7, bpfz⟩ := bp_3
  go_wp2_with fail
  have bp_3 : Blk8 _ _ _ _ _ _ _ _ _ _ := ⟨bplt, bpc0, bpc1, bpc2, bpc3, bpc4, bpc5, bpc6, bpc7, bpfz⟩
  clear bplt bpc0 bpc1 bpc2 bpc3 bpc4 bpc5 bpc6 bpc7 bpfz
  have L4 : Below w.heap.size w (w3.alloc (.cells #[.int .i64 0, .int .i64 0, .int .i64 0, .int .i64 0, .int .i64 0, .int .i64 0, .int .i64 0, .int .i64 0] 24)) := L3.alloc L3.size _
  have bp_4 := bp_3.alloc #[.int .i64 0, .int .i64 0, .int .i64 0, .int .i64 0, .int .i64 0, .int .i64 0, .int .i64 0, .int .i64 0] 24
  clear bp_3
  have bx_4 := Blk8.new w3 (.int .i64 0) (.int .i64 0) (.int .i64 0) (.int .i64 0) (.int .i64 0) (.int .i64 0) (.int .i64 0) (.int .i64 0) 24
  clear L3
  refine (HM _).mono ?_
  rintro e w5 ⟨rfl, hb⟩
  have L5 := L4.trans (hb.mono L4.size)
  have bp_5 := bp_4.below hb
  clear bp_4
  have bx_5 := bx_4.below hb
  clear bx_4
  clear hb
  clear L4
  obtain ⟨bplt, bpc0, bpc1, bpc2, bpc3, bpc4, bpc5, bpc6, bpc7, bpfz⟩ := bp_5
  obtain ⟨bxlt, bxc0, bxc1, bxc2, bxc3, bxc4, bxc5, bxc6, bxc7, bxfz⟩ := bx_5
  go_wp2_with fail
  have bp_5 : Blk8 _ _ _ _ _ _ _ _ _ _ := ⟨bplt, bpc0, bpc1, bpc2, bpc3, bpc4, bpc5, bpc6, bpc7, bpfz⟩
  clear bplt bpc0 bpc1 bpc2 bpc3 bpc4 bpc5 bpc6 bpc7 bpfz
  have bx_5 : Blk8 _ _ _ _ _ _ _ _ _ _ := ⟨bxlt, bxc0, bxc1, bxc2, bxc3, bxc4, bxc5, bxc6, bxc7, bxfz⟩
  clear bxlt bxc0 bxc1 bxc2 bxc3 bxc4 bxc5 bxc6 bxc7 bxfz
  have L6 : Below w.heap.size w (w5.alloc (.cells #[.int .i64 0, .int .i64 0, .int .i64 0, .int .i64 0, .int .i64 0, .int .i64 0, .int .i64 0, .int .i64 0] 24)) := L5.alloc L5.size _
  have bp_6 := bp_5.alloc #[.int .i64 0, .int .i64 0, .int .i64 0, .int .i64 0, .int .i64 0, .int .i64 0, .int .i64 0, .int .i64 0] 24
  clear bp_5
  have bx_6 := bx_5.alloc #[.int .i64 0, .int .i64 0, .int .i64 0, .int .i64 0, .int .i64 0, .int .i64 0, .int .i64 0, .int .i64 0] 24
  clear bx_5
  have bz_6 := Blk8.new w5 (.int .i64 0) (.int .i64 0) (.int .i64 0) (.int .i64 0) (.int .i64 0) (.int .i64 0) (.int .i64 0) (.int .i64 0) 24
  clear L5
  refine (HR _).mono ?_
  rintro e w7 ⟨rfl, hb⟩
  have L7 := L6.trans (hb.mono L6.size)
  have bp_7 := bp_6.below hb
  clear bp_6
  have bx_7 := bx_6.below hb
  clear bx_6
  have bz_7 := bz_6.below hb
  clear bz_6
  clear hb
  clear L6
  obtain ⟨bplt, bpc0, bpc1, bpc2, bpc3, bpc4, bpc5, bpc6, bpc7, bpfz⟩ := bp_7
  obtain ⟨bxlt, bxc0, bxc1, bxc2, bxc3, bxc4, bxc5, bxc6, bxc7, bxfz⟩ := bx_7
  obtain ⟨bzlt, bzc0, bzc1, bzc2, bzc3, bzc4, bzc5, bzc6, bzc7, bzfz⟩ := bz_7
  go_wp2_with fail
  have bp_7 : Blk8 _ _ _ _ _ _ _ _ _ _ := ⟨bplt, bpc0, bpc1, bpc2, bpc3, bpc4, bpc5, bpc6, bpc7, bpfz⟩
  clear bplt bpc0 bpc1 bpc2 bpc3 bpc4 bpc5 bpc6 bpc7 bpfz
  have bx_7 : Blk8 _ _ _ _ _ _ _ _ _ _ := ⟨bxlt, bxc0, bxc1, bxc2, bxc3, bxc4, bxc5, bxc6, bxc7, bxfz⟩
  clear bxlt bxc0 bxc1 bxc2 bxc3 bxc4 bxc5 bxc6 bxc7 bxfz
  have bz_7 : Blk8 _ _ _ _ _ _ _ _ _ _ := ⟨bzlt, bzc0, bzc1, bzc2, bzc3, bzc4, bzc5, bzc6, bzc7, bzfz⟩
  clear bzlt bzc0 bzc1 bzc2 bzc3 bzc4 bzc5 bzc6 bzc7 bzfz
  go_ret
  exact ⟨rfl, L7⟩
theorem refOf_yes (n s : Int) (hy : -9999 ≤ Cal.Year n) (hy2 : Cal.Year n ≤ 9999) (s0 : 0 ≤ s) (s1 : s < 86400) (w : World) :
    Calls Try.prog 14 #[.int .i64 n, .int .i64 s] w fun e w' => e = .returned (.tuple #[civ n s, .bool true]) ∧ Below w.heap.size w w' := by
  have q := Rt_num (civ_rt n s hy hy2 s0 s1)
  have e := (Cal.told_ok n).2
  have h := refOf n s (by omega) (by omega) s0 s1 w
  rw [show refOfV n s = .tuple #[civ n s, .bool true] from if_pos ⟨hy, hy2⟩] at h
  exact h
theorem refOf_no (n s : Int) (n0 : -1000000000000000 ≤ n) (n1 : n ≤ 1000000000000000) (hy : ¬ (-9999 ≤ Cal.Year n ∧ Cal.Year n ≤ 9999)) (s0 : 0 ≤ s) (s1 : s < 86400) (w : World) :
    Calls Try.prog 14 #[.int .i64 n, .int .i64 s] w fun e w' => e = .returned (.tuple #[civ0, .bool false]) ∧ Below w.heap.size w w' := by
  have h := refOf n s n0 n1 s0 s1 w
  rw [show refOfV n s = .tuple #[civ0, .bool false] from if_neg hy] at h
  exact h
theorem year_days {n : Int} (hy : -9999 ≤ Cal.Year n) (hy2 : Cal.Year n ≤ 9999) : -5000000 ≤ n ∧ n ≤ 5000000 := by
  have q := Rt_num (civ_rt n 0 hy hy2 (by omega) (by omega))
  have e := (Cal.told_ok n).2
  omega
theorem clip_eq {n : Int} (h : -1000000000 ≤ clip n) (h' : clip n ≤ 1000000000) : clip n = n := by
  unfold clip at *
  split at h <;> (try split at h) <;> (try split at h') <;> (try split at h') <;> simp_all <;> omega
def OneA (y mo d hh mi s wd yd n : Int) (x1 x2 x3 x4 x5 x6 x7 x8 : Int) : Prop :=
  (∀ w : World, Calls Try.prog 25 #[CV y mo d hh mi s wd yd, .int .i64 n] w fun e w' => e = .returned (.tuple #[CV x1 x2 x3 x4 x5 x6 x7 x8, .int .i64 0]) ∧ Below w.heap.size w w') ∧ (∀ w : World, Calls Try.prog 14 #[.int .i64 (Cal.num y mo d + clip n), .int .i64 (hh * 3600 + mi * 60 + s)] w fun e w' => e = .returned (.tuple #[CV x1 x2 x3 x4 x5 x6 x7 x8, .bool true]) ∧ Below w.heap.size w w')
def NoA (y mo d hh mi s wd yd n : Int) : Prop :=
  (∀ w : World, Calls Try.prog 25 #[CV y mo d hh mi s wd yd, .int .i64 n] w fun e w' => e = .returned (.tuple #[CV 0 0 0 0 0 0 0 0, .int .i64 7]) ∧ Below w.heap.size w w') ∧ (∀ w : World, Calls Try.prog 14 #[.int .i64 (Cal.num y mo d + clip n), .int .i64 (hh * 3600 + mi * 60 + s)] w fun e w' => e = .returned (.tuple #[CV 0 0 0 0 0 0 0 0, .bool false]) ∧ Below w.heap.size w w')
theorem first_half {y mo d hh mi s wd yd : Int} (n : Int) (hr : Rt y mo d hh mi s wd yd) : (∃ x1 x2 x3 x4 x5 x6 x7 x8, OneA y mo d hh mi s wd yd n x1 x2 x3 x4 x5 x6 x7 x8) ∨ NoA y mo d hh mi s wd yd n := by
  obtain ⟨y1, y2, m1, m2, d1, d2, n1, n2, ey, s1, s2⟩ := Rt_num hr
  have cn := clip_in n
  by_cases hy : -9999 ≤ Cal.Year (Cal.num y mo d + clip n) ∧ Cal.Year (Cal.num y mo d + clip n) ≤ 9999
  · have b := year_days hy.1 hy.2
    have e := clip_eq (n := n) (by omega) (by omega)
    have HO := refOf_yes (Cal.num y mo d + clip n) (hh * 3600 + mi * 60 + s) hy.1 hy.2 s1 s2
    have HA := AddDays_ok y mo d hh mi s wd yd n hr (by omega) (by omega) (by rw [← e]; exact hy.1) (by rw [← e]; exact hy.2)
    rw [e] at HO
    refine Or.inl ⟨_, _, _, _, _, _, _, _, HA, ?_⟩
    rw [e]; exact HO
  · have HO := refOf_no (Cal.num y mo d + clip n) (hh * 3600 + mi * 60 + s) (by omega) (by omega) hy s1 s2
    refine Or.inr ⟨?_, HO⟩
    by_cases t0 : 1099511627776 < n
    · exact AddDays_far1 y mo d hh mi s wd yd n hr t0
    by_cases t1 : n < -1099511627776
    · exact AddDays_far2 y mo d hh mi s wd yd n hr t1
    refine AddDays_out y mo d hh mi s wd yd n hr (by omega) (by omega) (fun g => hy ?_)
    have b := year_days g.1 g.2
    rw [clip_mid (by omega) (by omega)]
    exact g
theorem CivilAdds_good (y mo d hh mi s wd yd n k : Int) (hr : Rt y mo d hh mi s wd yd) (w : World) :
    Calls Try.prog 8 #[CV y mo d hh mi s wd yd, .int .i64 n, .int .i64 k] w fun e w' => e = .returned (.bool true) ∧ Below w.heap.size w w' := by
  have F := first_half n hr
  obtain ⟨y1, y2, m1, m2, d1, d2, n1, n2, ey, s1, s2⟩ := Rt_num hr
  have HR := RightYes y mo d hh mi s wd yd hr
  have HN := refNum y mo d hh mi s wd yd y1 y2 m1 m2 d1 d2
  obtain ⟨_, _, h1, h2, h3, h4, h5, h6, _, _⟩ := id hr
  by_cases hy : -9999 ≤ (y * 12 + mo - 1 + clip k) / 12 ∧ (y * 12 + mo - 1 + clip k) / 12 ≤ 9999
  · have e := clip_eq (n := k) (by omega) (by omega)
    rw [e] at hy
    have k1 : -1099511627776 ≤ k := by omega
    have k2 : k ≤ 1099511627776 := by omega
    have dm := Cal.dim_pos ((y * 12 + mo - 1 + k) / 12) ((y * 12 + mo - 1 + k) % 12 + 1)
    have ed : Cal.days ((y * 12 + mo - 1 + k) / 12) ((y * 12 + mo - 1 + k) % 12 + 1) = Cal.dim ((y * 12 + mo - 1 + k) / 12) ((y * 12 + mo - 1 + k) % 12 + 1) := if_pos ⟨hy.1, hy.2, by omega, by omega⟩
    have HD := dayRB ((y * 12 + mo - 1 + k) / 12) ((y * 12 + mo - 1 + k) % 12 + 1)
    by_cases hd : d ≤ Cal.days ((y * 12 + mo - 1 + k) / 12) ((y * 12 + mo - 1 + k) % 12 + 1)
    · have HM := AddMonths_keep y mo d hh mi s wd yd k hr k1 k2 hy.1 hy.2 hd
      have v : Cal.valid ((y * 12 + mo - 1 + k) / 12) ((y * 12 + mo - 1 + k) % 12 + 1) d := ⟨by omega, by omega, by omega, by omega⟩
      have yv := (Cal.told_num v).1
      have HN2 := refNum ((y * 12 + mo - 1 + k) / 12) ((y * 12 + mo - 1 + k) % 12 + 1) d 0 0 0 0 0 hy.1 hy.2 (by omega) (by omega) d1 d2
      have HO2 := refOf_yes (Cal.num ((y * 12 + mo - 1 + k) / 12) ((y * 12 + mo - 1 + k) % 12 + 1) d) (hh * 3600 + mi * 60 + s) (by omega) (by omega) s1 s2
      rcases F with ⟨x1, x2, x3, x4, x5, x6, x7, x8, HA, HO⟩ | ⟨HA, HO⟩
      · exact CivilAdds_true_keep y mo d hh mi s wd yd n k (Cal.num y mo d) _ _ x1 x2 x3 x4 x5 x6 x7 x8 _ _ _ _ _ _ _ _ n1 n2 y1 y2 m1 m2 h1 h2 h3 h4 h5 h6 (by rw [e]) (by rw [e]) hy.1 hy.2 _ _ (by omega) (by omega) d1 d2 hd HD HA HM HR HN HO HN2 HO2 w
      · exact CivilAdds_false_keep y mo d hh mi s wd yd n k (Cal.num y mo d) _ _ _ _ _ _ _ _ _ _ n1 n2 y1 y2 m1 m2 h1 h2 h3 h4 h5 h6 (by rw [e]) (by rw [e]) hy.1 hy.2 _ _ (by omega) (by omega) d1 d2 hd HD HA HM HR HN HO HN2 HO2 w
    · have HM := AddMonths_last y mo d hh mi s wd yd k hr k1 k2 hy.1 hy.2 hd
      have v : Cal.valid ((y * 12 + mo - 1 + k) / 12) ((y * 12 + mo - 1 + k) % 12 + 1) (Cal.days ((y * 12 + mo - 1 + k) / 12) ((y * 12 + mo - 1 + k) % 12 + 1)) := ⟨by omega, by omega, by omega, by omega⟩
      have yv := (Cal.told_num v).1
      have HN2 := refNum ((y * 12 + mo - 1 + k) / 12) ((y * 12 + mo - 1 + k) % 12 + 1) (Cal.days ((y * 12 + mo - 1 + k) / 12) ((y * 12 + mo - 1 + k) % 12 + 1)) 0 0 0 0 0 hy.1 hy.2 (by omega) (by omega) (by omega) (by omega)
      have HO2 := refOf_yes (Cal.num ((y * 12 + mo - 1 + k) / 12) ((y * 12 + mo - 1 + k) % 12 + 1) (Cal.days ((y * 12 + mo - 1 + k) / 12) ((y * 12 + mo - 1 + k) % 12 + 1))) (hh * 3600 + mi * 60 + s) (by omega) (by omega) s1 s2
      rcases F with ⟨x1, x2, x3, x4, x5, x6, x7, x8, HA, HO⟩ | ⟨HA, HO⟩
      · exact CivilAdds_true_last y mo d hh mi s wd yd n k (Cal.num y mo d) _ _ x1 x2 x3 x4 x5 x6 x7 x8 _ _ _ _ _ _ _ _ n1 n2 y1 y2 m1 m2 h1 h2 h3 h4 h5 h6 (by rw [e]) (by rw [e]) hy.1 hy.2 _ _ (by omega) (by omega) d1 d2 hd HD HA HM HR HN HO HN2 HO2 w
      · exact CivilAdds_false_last y mo d hh mi s wd yd n k (Cal.num y mo d) _ _ _ _ _ _ _ _ _ _ n1 n2 y1 y2 m1 m2 h1 h2 h3 h4 h5 h6 (by rw [e]) (by rw [e]) hy.1 hy.2 _ _ (by omega) (by omega) d1 d2 hd HD HA HM HR HN HO HN2 HO2 w
  · have HM : (∀ w : World, Calls Try.prog 26 #[CV y mo d hh mi s wd yd, .int .i64 k] w fun e w' => e = .returned (.tuple #[civ0, .int .i64 7]) ∧ Below w.heap.size w w') := by
      by_cases t0 : 1099511627776 < k
      · exact AddMonths_far1 y mo d hh mi s wd yd k hr t0
      by_cases t1 : k < -1099511627776
      · exact AddMonths_far2 y mo d hh mi s wd yd k hr t1
      refine AddMonths_out y mo d hh mi s wd yd k hr (by omega) (by omega) (fun g => hy ?_)
      rw [clip_mid (by omega) (by omega)]
      exact g
    rcases F with ⟨x1, x2, x3, x4, x5, x6, x7, x8, HA, HO⟩ | ⟨HA, HO⟩
    · exact CivilAdds_true_out y mo d hh mi s wd yd n k (Cal.num y mo d) _ _ x1 x2 x3 x4 x5 x6 x7 x8 n1 n2 y1 y2 m1 m2 h1 h2 h3 h4 h5 h6 rfl rfl hy HA HM HR HN HO w
    · exact CivilAdds_false_out y mo d hh mi s wd yd n k (Cal.num y mo d) _ _ n1 n2 y1 y2 m1 m2 h1 h2 h3 h4 h5 h6 rfl rfl hy HA HM HR HN HO w
theorem CivilAdds_walk (y mo d hh mi s wd yd n k : Int) (_b0 : -9223372036854775808 ≤ y) (_b0' : y ≤ 9223372036854775807) (_b1 : -9223372036854775808 ≤ mo) (_b1' : mo ≤ 9223372036854775807) (_b2 : -9223372036854775808 ≤ d) (_b2' : d ≤ 9223372036854775807) (_b3 : -9223372036854775808 ≤ hh) (_b3' : hh ≤ 9223372036854775807) (_b4 : -9223372036854775808 ≤ mi) (_b4' : mi ≤ 9223372036854775807) (_b5 : -9223372036854775808 ≤ s) (_b5' : s ≤ 9223372036854775807) (_b6 : -9223372036854775808 ≤ wd) (_b6' : wd ≤ 9223372036854775807) (_b7 : -9223372036854775808 ≤ yd) (_b7' : yd ≤ 9223372036854775807) (_b8 : -9223372036854775808 ≤ n) (_b8' : n ≤ 9223372036854775807) (_b9 : -9223372036854775808 ≤ k) (_b9' : k ≤ 9223372036854775807) (w : World) :
    Calls Try.prog 8 #[.agg #[.int .i64 y, .int .i64 mo, .int .i64 d, .int .i64 hh, .int .i64 mi, .int .i64 s, .int .i64 wd, .int .i64 yd], .int .i64 n, .int .i64 k] w fun e w' => e = .returned (.bool true) ∧ Below w.heap.size w w' := by
  change Calls Try.prog 8 #[CV y mo d hh mi s wd yd, .int .i64 n, .int .i64 k] w _
  by_cases hr : Rt y mo d hh mi s wd yd
  · exact CivilAdds_good y mo d hh mi s wd yd n k hr w
  · exact CivilAdds_bad y mo d hh mi s wd yd n k hr w
end Go.Proofs.Ytafoodfbjebdcaa
