/-
  CivilThere's walk: the law returns true for every seconds and offset. Conditions: each number fits its kind.
-/
import Derived.Test.YtafoodfbjebdcaaV
import Derived.Test.YtafoodfbjebdcaaM
import Derived.WalkKit
import Derived.ProofKit
import Derived.OpenShut
import Derived.Deep.QuietTactic
import Derived.BigQuiet
import Derived.Lib.Hide
import Derived.WalkLawsBesides
import Derived.Lib.QuietBelow
namespace Go.Proofs.Ytafoodfbjebdcaa
open Go.ChangeShapes Go.WideShapes Go.ChangeAt Go.RowKit
def secOf (h mi s : Int) : Int := h * 3600 + mi * 60 + s
theorem Of_to (s o : Int) (h1 : -86399 ≤ o) (h2 : o ≤ 86399) (h3 : -1099511627776 ≤ s) (h4 : s ≤ 1099511627776)
    (hy : -9999 ≤ Cal.Year ((s + o) / 86400)) (hy2 : Cal.Year ((s + o) / 86400) ≤ 9999) :
    ∃ a1 a2 a3 a4 a5 a6 a7 a8 : Int, Rt a1 a2 a3 a4 a5 a6 a7 a8 ∧ Cal.num a1 a2 a3 = (s + o) / 86400 ∧ a4 * 3600 + a5 * 60 + a6 = (s + o) % 86400 ∧
      ∀ w : World, Calls Try.prog 12 #[.int .i64 s, .int .i64 o] w fun e w' => e = .returned (.tuple #[CV a1 a2 a3 a4 a5 a6 a7 a8, .int .i64 0]) ∧ Below w.heap.size w w' :=
  ⟨_, _, _, _, _, _, _, _, civ_rt ((s + o) / 86400) ((s + o) % 86400) hy hy2 (by omega) (by omega), (Cal.told_ok _).2, by omega, fun w => Of_yes s o h1 h2 h3 h4 hy hy2 w⟩
theorem Of_is (s o : Int) (h1 : -86399 ≤ o) (h2 : o ≤ 86399) {a1 a2 a3 a4 a5 a6 a7 a8 : Int} (ra : Rt a1 a2 a3 a4 a5 a6 a7 a8) (na : Cal.num a1 a2 a3 = (s + o) / 86400) (ta : a4 * 3600 + a5 * 60 + a6 = (s + o) % 86400) (w : World) :
    Calls Try.prog 12 #[.int .i64 s, .int .i64 o] w fun e w' => e = .returned (.tuple #[CV a1 a2 a3 a4 a5 a6 a7 a8, .int .i64 0]) ∧ Below w.heap.size w w' := by
  obtain ⟨q1, q2, q3, q4, q5, q6, q7, q8, q9, q10, q11⟩ := Rt_num ra
  obtain ⟨b1, b2, b3, b4, b5, b6, b7, b8, rb, nb, tb, H⟩ := Of_to s o h1 h2 (by omega) (by omega) (by rw [← na]; omega) (by rw [← na]; omega)
  rw [Rt_inj rb ra (by omega) (by omega)] at H
  exact H w
theorem num_day (y m d : Int) : Cal.num y m (d + 1) = Cal.num y m d + 1 := by unfold Cal.num; omega
theorem num_month (y m : Int) (h1 : 1 ≤ m) (h2 : m ≤ 12) : Cal.num y (m + 1) 1 = Cal.num y m (Cal.dim y m) + 1 := by
  unfold Cal.num; rw [Cal.cum_succ y m h1 h2]; omega
theorem num_year (y : Int) : Cal.num (y + 1) 1 1 = Cal.num y 12 31 + 1 := by
  have a : Cal.cum y 12 = 334 + if Cal.lp y = true then 1 else 0 := by simp [Cal.cum, Cal.cum0]
  have b : Cal.cum (y + 1) 1 = 0 := by simp [Cal.cum, Cal.cum0]
  unfold Cal.num; rw [Cal.fst_succ, a, b]; split <;> omega
theorem dim12 (y : Int) : Cal.dim y 12 = 31 := by simp [Cal.dim]
theorem Rt_yd {y mo d h mi s wd yd : Int} (r : Rt y mo d h mi s wd yd) : 1 ≤ yd ∧ yd ≤ 20000000 ∧ 0 ≤ wd ∧ wd ≤ 6 ∧ 0 ≤ h ∧ h ≤ 23 ∧ 0 ≤ mi ∧ mi ≤ 59 ∧ 0 ≤ s ∧ s ≤ 59 ∧ 1 ≤ d ∧ d ≤ Cal.days y mo ∧ Cal.days y mo = Cal.dim y mo ∧ wd = (Cal.num y mo d + 4) % 7 ∧ yd = Cal.num y mo d - Cal.num y 1 1 + 1 := by
  obtain ⟨q1, q2, q3, q4, q5, q6, q7, q8, q9, q10, q11⟩ := Rt_num r
  obtain ⟨h1, h2, h3, h4, h5, h6, h7, h8, e1, e2⟩ := r
  have k := (Cal.num_in (days_in h1 h2).2.2.2.2.2).1
  have n1 := CivT.num_one y
  have n2 := num_in2 (y := y) (m := 1) (d := 1) q1 q2 (by omega) (by omega)
  exact ⟨by omega, by omega, by omega, by omega, by omega, by omega, by omega, by omega, by omega, by omega, by omega, by omega, if_pos ⟨q1, q2, q3, q4⟩, e1, e2⟩
theorem Rt_mk {y mo d h mi s wd yd : Int} (y1 : -9999 ≤ y) (y2 : y ≤ 9999) (m1 : 1 ≤ mo) (m2 : mo ≤ 12) (d1 : 1 ≤ d) (d2 : d ≤ Cal.dim y mo) (t : 0 ≤ h ∧ h ≤ 23 ∧ 0 ≤ mi ∧ mi ≤ 59 ∧ 0 ≤ s ∧ s ≤ 59) (e1 : wd = (Cal.num y mo d + 4) % 7) (e2 : yd = Cal.num y mo d - Cal.num y 1 1 + 1) : Rt y mo d h mi s wd yd := by
  have e : Cal.days y mo = Cal.dim y mo := if_pos ⟨y1, y2, m1, m2⟩
  unfold Rt; rw [e]; exact ⟨d1, d2, t.1, t.2.1, t.2.2.1, t.2.2.2.1, t.2.2.2.2.1, t.2.2.2.2.2, e1, e2⟩
set_option maxRecDepth 100000 in
set_option maxHeartbeats 1000000 in
theorem CivilThere_no (s o k : Int) (hk : (k == 0) = false) (HA : (∀ w : World, Calls Try.prog 12 #[.int .i64 s, .int .i64 o] w fun e w' => e = .returned (.tuple #[civ0, .int .i64 k]) ∧ Below w.heap.size w w')) (w : World) :
    Calls Try.prog 6 #[.int .i64 s, .int .i64 o] w fun e w' => e = .returned (.bool true) ∧ Below w.heap.size w w' := by
  unfold civ0 at HA
  go_enter Try.func6, Try.ntmps6
  have L0 : Below w.heap.size w w := Below.refl _ _
  go_wp2_with fail
  refine (wakes_any _).mono ?_
  rintro e w1 ⟨rfl, hb⟩
  have L1 := L0.trans (hb.mono L0.size)
  clear hb
  clear L0
  go_wp2_with fail
  refine (HA _).mono ?_
  rintro e w2 ⟨rfl, hb⟩
  have L2 := L1.trans (hb.mono L1.size)
  clear hb
  clear L1
  go_wp2_with fail
  have L3 : Below w.heap.size w (w2.alloc (.cells #[.int .i64 0, .int .i64 0, .int .i64 0, .int .i64 0, .int .i64 0, .int .i64 0, .int .i64 0, .int .i64 0] 24)) := L2.alloc L2.size _
  have ba_3 := Blk8.new w2 (.int .i64 0) (.int .i64 0) (.int .i64 0) (.int .i64 0) (.int .i64 0) (.int .i64 0) (.int .i64 0) (.int .i64 0) 24
  clear L2
  go_ret
  exact ⟨rfl, L3⟩
set_option maxRecDepth 100000 in
set_option maxHeartbeats 1000000 in
theorem CivilThere_end (s o : Int) (s1 : -1000000000000000 ≤ s) (s2 : s ≤ 1000000000000000) (c7 c8 : Int) (HA : (∀ w : World, Calls Try.prog 12 #[.int .i64 s, .int .i64 o] w fun e w' => e = .returned (.tuple #[CV 9999 12 31 23 59 59 c7 c8, .int .i64 0]) ∧ Below w.heap.size w w')) (HS : (∀ w : World, Calls Try.prog 22 #[CV 9999 12 31 23 59 59 c7 c8, .int .i64 o] w fun e w' => e = .returned (.tuple #[.int .i64 s, .int .i64 0]) ∧ Below w.heap.size w w')) (HC : (∀ w : World, Calls Try.prog 24 #[CV 9999 12 31 23 59 59 c7 c8] w fun e w' => e = .returned (.int .i64 0) ∧ Below w.heap.size w w')) (HB : (∀ w : World, Calls Try.prog 12 #[.int .i64 (s + 1), .int .i64 o] w fun e w' => e = .returned (.tuple #[civ0, .int .i64 7]) ∧ Below w.heap.size w w')) (w : World) :
    Calls Try.prog 6 #[.int .i64 s, .int .i64 o] w fun e w' => e = .returned (.bool true) ∧ Below w.heap.size w w' := by
  unfold CV civ0 at *
  go_enter Try.func6, Try.ntmps6
  have L0 : Below w.heap.size w w := Below.refl _ _
  go_wp2_with fail
  refine (wakes_any _).mono ?_
  rintro e w1 ⟨rfl, hb⟩
  have L1 := L0.trans (hb.mono L0.size)
  clear hb
  clear L0
  go_wp2_with fail
  refine (HA _).mono ?_
  rintro e w2 ⟨rfl, hb⟩
  have L2 := L1.trans (hb.mono L1.size)
  clear hb
  clear L1
  have hsz := L2.size
  go_wp2_with fail
  have L3 : Below w.heap.size w (w2.alloc (.cells #[.int .i64 9999, .int .i64 12, .int .i64 31, .int .i64 23, .int .i64 59, .int .i64 59, .int .i64 c7, .int .i64 c8] 24)) := L2.alloc L2.size _
  have ba_3 := Blk8.new w2 (.int .i64 9999) (.int .i64 12) (.int .i64 31) (.int .i64 23) (.int .i64 59) (.int .i64 59) (.int .i64 c7) (.int .i64 c8) 24
  clear L2
  refine (HS _).mono ?_
  rintro e w4 ⟨rfl, hb⟩
  have L4 := L3.trans (hb.mono L3.size)
  have ba_4 := ba_3.below hb
  clear ba_3
  clear hb
  clear L3
  obtain ⟨balt, bac0, bac1, bac2, bac3, bac4, bac5, bac6, bac7, bafz⟩ := ba_4
  go_wp2_with fail
  have ba_4 : Blk8 _ _ _ _ _ _ _ _ _ _ := ⟨balt, bac0, bac1, bac2, bac3, bac4, bac5, bac6, bac7, bafz⟩
  clear balt bac0 bac1 bac2 bac3 bac4 bac5 bac6 bac7 bafz
  refine (HC _).mono ?_
  rintro e w5 ⟨rfl, hb⟩
  have L5 := L4.trans (hb.mono L4.size)
  have ba_5 := ba_4.below hb
  clear ba_4
  clear hb
  clear L4
  obtain ⟨balt, bac0, bac1, bac2, bac3, bac4, bac5, bac6, bac7, bafz⟩ := ba_5
  go_wp2_with fail
  have ba_5 : Blk8 _ _ _ _ _ _ _ _ _ _ := ⟨balt, bac0, bac1, bac2, bac3, bac4, bac5, bac6, bac7, bafz⟩
  clear balt bac0 bac1 bac2 bac3 bac4 bac5 bac6 bac7 bafz
  refine (HB _).mono ?_
  rintro e w6 ⟨rfl, hb⟩
  have L6 := L5.trans (hb.mono L5.size)
  have ba_6 := ba_5.below hb
  clear ba_5
  clear hb
  clear L5
  obtain ⟨balt, bac0, bac1, bac2, bac3, bac4, bac5, bac6, bac7, bafz⟩ := ba_6
  go_wp2_with fail
  have ba_6 : Blk8 _ _ _ _ _ _ _ _ _ _ := ⟨balt, bac0, bac1, bac2, bac3, bac4, bac5, bac6, bac7, bafz⟩
  clear balt bac0 bac1 bac2 bac3 bac4 bac5 bac6 bac7 bafz
  have L7 : Below w.heap.size w (w6.alloc (.cells #[.int .i64 0, .int .i64 0, .int .i64 0, .int .i64 0, .int .i64 0, .int .i64 0, .int .i64 0, .int .i64 0] 24)) := L6.alloc L6.size _
  have ba_7 := ba_6.alloc #[.int .i64 0, .int .i64 0, .int .i64 0, .int .i64 0, .int .i64 0, .int .i64 0, .int .i64 0, .int .i64 0] 24
  clear ba_6
  have bd_7 := Blk8.new w6 (.int .i64 0) (.int .i64 0) (.int .i64 0) (.int .i64 0) (.int .i64 0) (.int .i64 0) (.int .i64 0) (.int .i64 0) 24
  clear L6
  go_ret
  exact ⟨rfl, L7⟩
set_option maxRecDepth 100000 in
set_option maxHeartbeats 1000000 in
theorem CivilThere_sec (s o : Int) (s1 : -1000000000000000 ≤ s) (s2 : s ≤ 1000000000000000) (c1 c2 c3 c4 c5 c6 c7 c8 : Int) (_b1 : -9999 ≤ c1) (_b2 : c1 ≤ 9999) (_b3 : 1 ≤ c2) (_b4 : c2 ≤ 12) (_b5 : 1 ≤ c3) (_b6 : c3 ≤ 31) (_b7 : 0 ≤ c4) (_b8 : c4 ≤ 23) (_b9 : 0 ≤ c5) (_b10 : c5 ≤ 59) (_b11 : 0 ≤ c6) (_b12 : c6 ≤ 59) (_b13 : 0 ≤ c7) (_b14 : c7 ≤ 6) (_b15 : 1 ≤ c8) (_b16 : c8 ≤ 20000000) (t1 : c6 < 59) (HA : (∀ w : World, Calls Try.prog 12 #[.int .i64 s, .int .i64 o] w fun e w' => e = .returned (.tuple #[CV c1 c2 c3 c4 c5 c6 c7 c8, .int .i64 0]) ∧ Below w.heap.size w w')) (HS : (∀ w : World, Calls Try.prog 22 #[CV c1 c2 c3 c4 c5 c6 c7 c8, .int .i64 o] w fun e w' => e = .returned (.tuple #[.int .i64 s, .int .i64 0]) ∧ Below w.heap.size w w')) (HC : (∀ w : World, Calls Try.prog 24 #[CV c1 c2 c3 c4 c5 c6 c7 c8] w fun e w' => e = .returned (.int .i64 0) ∧ Below w.heap.size w w')) (HB : (∀ w : World, Calls Try.prog 12 #[.int .i64 (s + 1), .int .i64 o] w fun e w' => e = .returned (.tuple #[CV c1 c2 c3 c4 c5 (c6 + 1) c7 c8, .int .i64 0]) ∧ Below w.heap.size w w')) (w : World) :
    Calls Try.prog 6 #[.int .i64 s, .int .i64 o] w fun e w' => e = .returned (.bool true) ∧ Below w.heap.size w w' := by
  unfold CV at *
  go_enter Try.func6, Try.ntmps6
  have L0 : Below w.heap.size w w := Below.refl _ _
  go_wp2_with fail
  refine (wakes_any _).mono ?_
  rintro e w1 ⟨rfl, hb⟩
  have L1 := L0.trans (hb.mono L0.size)
  clear hb
  clear L0
  go_wp2_with fail
  refine (HA _).mono ?_
  rintro e w2 ⟨rfl, hb⟩
  have L2 := L1.trans (hb.mono L1.size)
  clear hb
  clear L1
  have hsz := L2.size
  go_wp2_with fail
  have L3 : Below w.heap.size w (w2.alloc (.cells #[.int .i64 c1, .int .i64 c2, .int .i64 c3, .int .i64 c4, .int .i64 c5, .int .i64 c6, .int .i64 c7, .int .i64 c8] 24)) := L2.alloc L2.size _
  have ba_3 := Blk8.new w2 (.int .i64 c1) (.int .i64 c2) (.int .i64 c3) (.int .i64 c4) (.int .i64 c5) (.int .i64 c6) (.int .i64 c7) (.int .i64 c8) 24
  clear L2
  refine (HS _).mono ?_
  rintro e w4 ⟨rfl, hb⟩
  have L4 := L3.trans (hb.mono L3.size)
  have ba_4 := ba_3.below hb
  clear ba_3
  clear hb
  clear L3
  obtain ⟨balt, bac0, bac1, bac2, bac3, bac4, bac5, bac6, bac7, bafz⟩ := ba_4
  go_wp2_with fail
  have ba_4 : Blk8 _ _ _ _ _ _ _ _ _ _ := ⟨balt, bac0, bac1, bac2, bac3, bac4, bac5, bac6, bac7, bafz⟩
  clear balt bac0 bac1 bac2 bac3 bac4 bac5 bac6 bac7 bafz
  refine (HC _).mono ?_
  rintro e w5 ⟨rfl, hb⟩
  have L5 := L4.trans (hb.mono L4.size)
  have ba_5 := ba_4.below hb
  clear ba_4
  clear hb
  clear L4
  obtain ⟨balt, bac0, bac1, bac2, bac3, bac4, bac5, bac6, bac7, bafz⟩ := ba_5
  go_wp2_with fail
  have ba_5 : Blk8 _ _ _ _ _ _ _ _ _ _ := ⟨balt, bac0, bac1, bac2, bac3, bac4, bac5, bac6, bac7, bafz⟩
  clear balt bac0 bac1 bac2 bac3 bac4 bac5 bac6 bac7 bafz
  refine (HB _).mono ?_
  rintro e w6 ⟨rfl, hb⟩
  have L6 := L5.trans (hb.mono L5.size)
  have ba_6 := ba_5.below hb
  clear ba_5
  clear hb
  clear L5
  obtain ⟨balt, bac0, bac1, bac2, bac3, bac4, bac5, bac6, bac7, bafz⟩ := ba_6
  go_wp2_with fail
  have ba_6 : Blk8 _ _ _ _ _ _ _ _ _ _ := ⟨balt, bac0, bac1, bac2, bac3, bac4, bac5, bac6, bac7, bafz⟩
  clear balt bac0 bac1 bac2 bac3 bac4 bac5 bac6 bac7 bafz
  have hne : w2.heap.size ≠ w6.heap.size := Nat.ne_of_lt ba_6.lt
  have hne2 := hne.symm
  have LK := L6
  have hsz2 := LK.size
  have L7 : Below w.heap.size w (w6.alloc (.cells #[.int .i64 c1, .int .i64 c2, .int .i64 c3, .int .i64 c4, .int .i64 c5, .int .i64 (c6 + 1), .int .i64 c7, .int .i64 c8] 24)) := L6.alloc L6.size _
  have ba_7 := ba_6.alloc #[.int .i64 c1, .int .i64 c2, .int .i64 c3, .int .i64 c4, .int .i64 c5, .int .i64 (c6 + 1), .int .i64 c7, .int .i64 c8] 24
  clear ba_6
  have bd_7 := Blk8.new w6 (.int .i64 c1) (.int .i64 c2) (.int .i64 c3) (.int .i64 c4) (.int .i64 c5) (.int .i64 (c6 + 1)) (.int .i64 c7) (.int .i64 c8) 24
  clear L6
  go_ret
  refine ⟨rfl, ?_⟩
  repeat' (first | (with_reducible exact LK) | (with_reducible exact hsz) | (with_reducible refine Below.setCell ?_ ?_ _) | (with_reducible refine Below.alloc ?_ ?_ _) | (simp; done) | (simp; omega))
set_option maxRecDepth 100000 in
set_option maxHeartbeats 1000000 in
theorem CivilThere_min (s o : Int) (s1 : -1000000000000000 ≤ s) (s2 : s ≤ 1000000000000000) (c1 c2 c3 c4 c5 c6 c7 c8 : Int) (_b1 : -9999 ≤ c1) (_b2 : c1 ≤ 9999) (_b3 : 1 ≤ c2) (_b4 : c2 ≤ 12) (_b5 : 1 ≤ c3) (_b6 : c3 ≤ 31) (_b7 : 0 ≤ c4) (_b8 : c4 ≤ 23) (_b9 : 0 ≤ c5) (_b10 : c5 ≤ 59) (_b11 : 0 ≤ c6) (_b12 : c6 ≤ 59) (_b13 : 0 ≤ c7) (_b14 : c7 ≤ 6) (_b15 : 1 ≤ c8) (_b16 : c8 ≤ 20000000) (t1 : ¬ c6 < 59) (t2 : c5 < 59) (HA : (∀ w : World, Calls Try.prog 12 #[.int .i64 s, .int .i64 o] w fun e w' => e = .returned (.tuple #[CV c1 c2 c3 c4 c5 c6 c7 c8, .int .i64 0]) ∧ Below w.heap.size w w')) (HS : (∀ w : World, Calls Try.prog 22 #[CV c1 c2 c3 c4 c5 c6 c7 c8, .int .i64 o] w fun e w' => e = .returned (.tuple #[.int .i64 s, .int .i64 0]) ∧ Below w.heap.size w w')) (HC : (∀ w : World, Calls Try.prog 24 #[CV c1 c2 c3 c4 c5 c6 c7 c8] w fun e w' => e = .returned (.int .i64 0) ∧ Below w.heap.size w w')) (HB : (∀ w : World, Calls Try.prog 12 #[.int .i64 (s + 1), .int .i64 o] w fun e w' => e = .returned (.tuple #[CV c1 c2 c3 c4 (c5 + 1) 0 c7 c8, .int .i64 0]) ∧ Below w.heap.size w w')) (w : World) :
    Calls Try.prog 6 #[.int .i64 s, .int .i64 o] w fun e w' => e = .returned (.bool true) ∧ Below w.heap.size w w' := by
  unfold CV at *
  go_enter Try.func6, Try.ntmps6
  have L0 : Below w.heap.size w w := Below.refl _ _
  go_wp2_with fail
  refine (wakes_any _).mono ?_
  rintro e w1 ⟨rfl, hb⟩
  have L1 := L0.trans (hb.mono L0.size)
  clear hb
  clear L0
  go_wp2_with fail
  refine (HA _).mono ?_
  rintro e w2 ⟨rfl, hb⟩
  have L2 := L1.trans (hb.mono L1.size)
  clear hb
  clear L1
  have hsz := L2.size
  go_wp2_with fail
  have L3 : Below w.heap.size w (w2.alloc (.cells #[.int .i64 c1, .int .i64 c2, .int .i64 c3, .int .i64 c4, .int .i64 c5, .int .i64 c6, .int .i64 c7, .int .i64 c8] 24)) := L2.alloc L2.size _
  have ba_3 := Blk8.new w2 (.int .i64 c1) (.int .i64 c2) (.int .i64 c3) (.int .i64 c4) (.int .i64 c5) (.int .i64 c6) (.int .i64 c7) (.int .i64 c8) 24
  clear L2
  refine (HS _).mono ?_
  rintro e w4 ⟨rfl, hb⟩
  have L4 := L3.trans (hb.mono L3.size)
  have ba_4 := ba_3.below hb
  clear ba_3
  clear hb
  clear L3
  obtain ⟨balt, bac0, bac1, bac2, bac3, bac4, bac5, bac6, bac7, bafz⟩ := ba_4
  go_wp2_with fail
  have ba_4 : Blk8 _ _ _ _ _ _ _ _ _ _ := ⟨balt, bac0, bac1, bac2, bac3, bac4, bac5, bac6, bac7, bafz⟩
  clear balt bac0 bac1 bac2 bac3 bac4 bac5 bac6 bac7 bafz
  refine (HC _).mono ?_
  rintro e w5 ⟨rfl, hb⟩
  have L5 := L4.trans (hb.mono L4.size)
  have ba_5 := ba_4.below hb
  clear ba_4
  clear hb
  clear L4
  obtain ⟨balt, bac0, bac1, bac2, bac3, bac4, bac5, bac6, bac7, bafz⟩ := ba_5
  go_wp2_with fail
  have ba_5 : Blk8 _ _ _ _ _ _ _ _ _ _ := ⟨balt, bac0, bac1, bac2, bac3, bac4, bac5, bac6, bac7, bafz⟩
  clear balt bac0 bac1 bac2 bac3 bac4 bac5 bac6 bac7 bafz
  refine (HB _).mono ?_
  rintro e w6 ⟨rfl, hb⟩
  have L6 := L5.trans (hb.mono L5.size)
  have ba_6 := ba_5.below hb
  clear ba_5
  clear hb
  clear L5
  obtain ⟨balt, bac0, bac1, bac2, bac3, bac4, bac5, bac6, bac7, bafz⟩ := ba_6
  go_wp2_with fail
  have ba_6 : Blk8 _ _ _ _ _ _ _ _ _ _ := ⟨balt, bac0, bac1, bac2, bac3, bac4, bac5, bac6, bac7, bafz⟩
  clear balt bac0 bac1 bac2 bac3 bac4 bac5 bac6 bac7 bafz
  have hne : w2.heap.size ≠ w6.heap.size := Nat.ne_of_lt ba_6.lt
  have hne2 := hne.symm
  have LK := L6
  have hsz2 := LK.size
  have L7 : Below w.heap.size w (w6.alloc (.cells #[.int .i64 c1, .int .i64 c2, .int .i64 c3, .int .i64 c4, .int .i64 (c5 + 1), .int .i64 0, .int .i64 c7, .int .i64 c8] 24)) := L6.alloc L6.size _
  have ba_7 := ba_6.alloc #[.int .i64 c1, .int .i64 c2, .int .i64 c3, .int .i64 c4, .int .i64 (c5 + 1), .int .i64 0, .int .i64 c7, .int .i64 c8] 24
  clear ba_6
  have bd_7 := Blk8.new w6 (.int .i64 c1) (.int .i64 c2) (.int .i64 c3) (.int .i64 c4) (.int .i64 (c5 + 1)) (.int .i64 0) (.int .i64 c7) (.int .i64 c8) 24
  clear L6
  go_ret
  refine ⟨rfl, ?_⟩
  repeat' (first | (with_reducible exact LK) | (with_reducible exact hsz) | (with_reducible refine Below.setCell ?_ ?_ _) | (with_reducible refine Below.alloc ?_ ?_ _) | (simp; done) | (simp; omega))
set_option maxRecDepth 100000 in
set_option maxHeartbeats 1000000 in
theorem CivilThere_hr (s o : Int) (s1 : -1000000000000000 ≤ s) (s2 : s ≤ 1000000000000000) (c1 c2 c3 c4 c5 c6 c7 c8 : Int) (_b1 : -9999 ≤ c1) (_b2 : c1 ≤ 9999) (_b3 : 1 ≤ c2) (_b4 : c2 ≤ 12) (_b5 : 1 ≤ c3) (_b6 : c3 ≤ 31) (_b7 : 0 ≤ c4) (_b8 : c4 ≤ 23) (_b9 : 0 ≤ c5) (_b10 : c5 ≤ 59) (_b11 : 0 ≤ c6) (_b12 : c6 ≤ 59) (_b13 : 0 ≤ c7) (_b14 : c7 ≤ 6) (_b15 : 1 ≤ c8) (_b16 : c8 ≤ 20000000) (t1 : ¬ c6 < 59) (t2 : ¬ c5 < 59) (t3 : c4 < 23) (HA : (∀ w : World, Calls Try.prog 12 #[.int .i64 s, .int .i64 o] w fun e w' => e = .returned (.tuple #[CV c1 c2 c3 c4 c5 c6 c7 c8, .int .i64 0]) ∧ Below w.heap.size w w')) (HS : (∀ w : World, Calls Try.prog 22 #[CV c1 c2 c3 c4 c5 c6 c7 c8, .int .i64 o] w fun e w' => e = .returned (.tuple #[.int .i64 s, .int .i64 0]) ∧ Below w.heap.size w w')) (HC : (∀ w : World, Calls Try.prog 24 #[CV c1 c2 c3 c4 c5 c6 c7 c8] w fun e w' => e = .returned (.int .i64 0) ∧ Below w.heap.size w w')) (HB : (∀ w : World, Calls Try.prog 12 #[.int .i64 (s + 1), .int .i64 o] w fun e w' => e = .returned (.tuple #[CV c1 c2 c3 (c4 + 1) 0 0 c7 c8, .int .i64 0]) ∧ Below w.heap.size w w')) (w : World) :
    Calls Try.prog 6 #[.int .i64 s, .int .i64 o] w fun e w' => e = .returned (.bool true) ∧ Below w.heap.size w w' := by
  unfold CV at *
  go_enter Try.func6, Try.ntmps6
  have L0 : Below w.heap.size w w := Below.refl _ _
  go_wp2_with fail
  refine (wakes_any _).mono ?_
  rintro e w1 ⟨rfl, hb⟩
  have L1 := L0.trans (hb.mono L0.size)
  clear hb
  clear L0
  go_wp2_with fail
  refine (HA _).mono ?_
  rintro e w2 ⟨rfl, hb⟩
  have L2 := L1.trans (hb.mono L1.size)
  clear hb
  clear L1
  have hsz := L2.size
  go_wp2_with fail
  have L3 : Below w.heap.size w (w2.alloc (.cells #[.int .i64 c1, .int .i64 c2, .int .i64 c3, .int .i64 c4, .int .i64 c5, .int .i64 c6, .int .i64 c7, .int .i64 c8] 24)) := L2.alloc L2.size _
  have ba_3 := Blk8.new w2 (.int .i64 c1) (.int .i64 c2) (.int .i64 c3) (.int .i64 c4) (.int .i64 c5) (.int .i64 c6) (.int .i64 c7) (.int .i64 c8) 24
  clear L2
  refine (HS _).mono ?_
  rintro e w4 ⟨rfl, hb⟩
  have L4 := L3.trans (hb.mono L3.size)
  have ba_4 := ba_3.below hb
  clear ba_3
  clear hb
  clear L3
  obtain ⟨balt, bac0, bac1, bac2, bac3, bac4, bac5, bac6, bac7, bafz⟩ := ba_4
  go_wp2_with fail
  have ba_4 : Blk8 _ _ _ _ _ _ _ _ _ _ := ⟨balt, bac0, bac1, bac2, bac3, bac4, bac5, bac6, bac7, bafz⟩
  clear balt bac0 bac1 bac2 bac3 bac4 bac5 bac6 bac7 bafz
  refine (HC _).mono ?_
  rintro e w5 ⟨rfl, hb⟩
  have L5 := L4.trans (hb.mono L4.size)
  have ba_5 := ba_4.below hb
  clear ba_4
  clear hb
  clear L4
  obtain ⟨balt, bac0, bac1, bac2, bac3, bac4, bac5, bac6, bac7, bafz⟩ := ba_5
  go_wp2_with fail
  have ba_5 : Blk8 _ _ _ _ _ _ _ _ _ _ := ⟨balt, bac0, bac1, bac2, bac3, bac4, bac5, bac6, bac7, bafz⟩
  clear balt bac0 bac1 bac2 bac3 bac4 bac5 bac6 bac7 bafz
  refine (HB _).mono ?_
  rintro e w6 ⟨rfl, hb⟩
  have L6 := L5.trans (hb.mono L5.size)
  have ba_6 := ba_5.below hb
  clear ba_5
  clear hb
  clear L5
  obtain ⟨balt, bac0, bac1, bac2, bac3, bac4, bac5, bac6, bac7, bafz⟩ := ba_6
  go_wp2_with fail
  have ba_6 : Blk8 _ _ _ _ _ _ _ _ _ _ := ⟨balt, bac0, bac1, bac2, bac3, bac4, bac5, bac6, bac7, bafz⟩
  clear balt bac0 bac1 bac2 bac3 bac4 bac5 bac6 bac7 bafz
  have hne : w2.heap.size ≠ w6.heap.size := Nat.ne_of_lt ba_6.lt
  have hne2 := hne.symm
  have LK := L6
  have hsz2 := LK.size
  have L7 : Below w.heap.size w (w6.alloc (.cells #[.int .i64 c1, .int .i64 c2, .int .i64 c3, .int .i64 (c4 + 1), .int .i64 0, .int .i64 0, .int .i64 c7, .int .i64 c8] 24)) := L6.alloc L6.size _
  have ba_7 := ba_6.alloc #[.int .i64 c1, .int .i64 c2, .int .i64 c3, .int .i64 (c4 + 1), .int .i64 0, .int .i64 0, .int .i64 c7, .int .i64 c8] 24
  clear ba_6
  have bd_7 := Blk8.new w6 (.int .i64 c1) (.int .i64 c2) (.int .i64 c3) (.int .i64 (c4 + 1)) (.int .i64 0) (.int .i64 0) (.int .i64 c7) (.int .i64 c8) 24
  clear L6
  go_ret
  refine ⟨rfl, ?_⟩
  repeat' (first | (with_reducible exact LK) | (with_reducible exact hsz) | (with_reducible refine Below.setCell ?_ ?_ _) | (with_reducible refine Below.alloc ?_ ?_ _) | (simp; done) | (simp; omega))
set_option maxRecDepth 100000 in
set_option maxHeartbeats 1000000 in
theorem CivilThere_day (s o : Int) (s1 : -1000000000000000 ≤ s) (s2 : s ≤ 1000000000000000) (c1 c2 c3 c4 c5 c6 c7 c8 : Int) (_b1 : -9999 ≤ c1) (_b2 : c1 ≤ 9999) (_b3 : 1 ≤ c2) (_b4 : c2 ≤ 12) (_b5 : 1 ≤ c3) (_b6 : c3 ≤ 31) (_b7 : 0 ≤ c4) (_b8 : c4 ≤ 23) (_b9 : 0 ≤ c5) (_b10 : c5 ≤ 59) (_b11 : 0 ≤ c6) (_b12 : c6 ≤ 59) (_b13 : 0 ≤ c7) (_b14 : c7 ≤ 6) (_b15 : 1 ≤ c8) (_b16 : c8 ≤ 20000000) (t1 : ¬ c6 < 59) (t2 : ¬ c5 < 59) (t3 : ¬ c4 < 23) (D : Int) (_D1 : 0 ≤ D) (_D2 : D ≤ 31) (t4 : c3 < D) (HD : (∀ w : World, Calls Try.prog 20 #[.int .i64 c1, .int .i64 c2] w fun e w' => e = .returned (.int .i64 D) ∧ Below w.heap.size w w')) (HA : (∀ w : World, Calls Try.prog 12 #[.int .i64 s, .int .i64 o] w fun e w' => e = .returned (.tuple #[CV c1 c2 c3 c4 c5 c6 c7 c8, .int .i64 0]) ∧ Below w.heap.size w w')) (HS : (∀ w : World, Calls Try.prog 22 #[CV c1 c2 c3 c4 c5 c6 c7 c8, .int .i64 o] w fun e w' => e = .returned (.tuple #[.int .i64 s, .int .i64 0]) ∧ Below w.heap.size w w')) (HC : (∀ w : World, Calls Try.prog 24 #[CV c1 c2 c3 c4 c5 c6 c7 c8] w fun e w' => e = .returned (.int .i64 0) ∧ Below w.heap.size w w')) (HB : (∀ w : World, Calls Try.prog 12 #[.int .i64 (s + 1), .int .i64 o] w fun e w' => e = .returned (.tuple #[CV c1 c2 (c3 + 1) 0 0 0 ((c7 + 1) % 7) (c8 + 1), .int .i64 0]) ∧ Below w.heap.size w w')) (w : World) :
    Calls Try.prog 6 #[.int .i64 s, .int .i64 o] w fun e w' => e = .returned (.bool true) ∧ Below w.heap.size w w' := by
  unfold CV at *
  go_enter Try.func6, Try.ntmps6
  have L0 : Below w.heap.size w w := Below.refl _ _
  go_wp2_with fail
  refine (wakes_any _).mono ?_
  rintro e w1 ⟨rfl, hb⟩
  have L1 := L0.trans (hb.mono L0.size)
  clear hb
  clear L0
  go_wp2_with fail
  refine (HA _).mono ?_
  rintro e w2 ⟨rfl, hb⟩
  have L2 := L1.trans (hb.mono L1.size)
  clear hb
  clear L1
  have hsz := L2.size
  go_wp2_with fail
  have L3 : Below w.heap.size w (w2.alloc (.cells #[.int .i64 c1, .int .i64 c2, .int .i64 c3, .int .i64 c4, .int .i64 c5, .int .i64 c6, .int .i64 c7, .int .i64 c8] 24)) := L2.alloc L2.size _
  have ba_3 := Blk8.new w2 (.int .i64 c1) (.int .i64 c2) (.int .i64 c3) (.int .i64 c4) (.int .i64 c5) (.int .i64 c6) (.int .i64 c7) (.int .i64 c8) 24
  clear L2
  refine (HS _).mono ?_
  rintro e w4 ⟨rfl, hb⟩
  have L4 := L3.trans (hb.mono L3.size)
  have ba_4 := ba_3.below hb
  clear ba_3
  clear hb
  clear L3
  obtain ⟨balt, bac0, bac1, bac2, bac3, bac4, bac5, bac6, bac7, bafz⟩ := ba_4
  go_wp2_with fail
  have ba_4 : Blk8 _ _ _ _ _ _ _ _ _ _ := ⟨balt, bac0, bac1, bac2, bac3, bac4, bac5, bac6, bac7, bafz⟩
  clear balt bac0 bac1 bac2 bac3 bac4 bac5 bac6 bac7 bafz
  refine (HC _).mono ?_
  rintro e w5 ⟨rfl, hb⟩
  have L5 := L4.trans (hb.mono L4.size)
  have ba_5 := ba_4.below hb
  clear ba_4
  clear hb
  clear L4
  obtain ⟨balt, bac0, bac1, bac2, bac3, bac4, bac5, bac6, bac7, bafz⟩ := ba_5
  go_wp2_with fail
  have ba_5 : Blk8 _ _ _ _ _ _ _ _ _ _ := ⟨balt, bac0, bac1, bac2, bac3, bac4, bac5, bac6, bac7, bafz⟩
  clear balt bac0 bac1 bac2 bac3 bac4 bac5 bac6 bac7 bafz
  refine (HB _).mono ?_
  rintro e w6 ⟨rfl, hb⟩
  have L6 := L5.trans (hb.mono L5.size)
  have ba_6 := ba_5.below hb
  clear ba_5
  clear hb
  clear L5
  obtain ⟨balt, bac0, bac1, bac2, bac3, bac4, bac5, bac6, bac7, bafz⟩ := ba_6
  go_wp2_with fail
  have ba_6 : Blk8 _ _ _ _ _ _ _ _ _ _ := ⟨balt, bac0, bac1, bac2, bac3, bac4, bac5, bac6, bac7, bafz⟩
  clear balt bac0 bac1 bac2 bac3 bac4 bac5 bac6 bac7 bafz
  have L7 : Below w.heap.size w (w6.alloc (.cells #[.int .i64 c1, .int .i64 c2, .int .i64 (c3 + 1), .int .i64 0, .int .i64 0, .int .i64 0, .int .i64 ((c7 + 1) % 7), .int .i64 (c8 + 1)] 24)) := L6.alloc L6.size _
  have ba_7 := ba_6.alloc #[.int .i64 c1, .int .i64 c2, .int .i64 (c3 + 1), .int .i64 0, .int .i64 0, .int .i64 0, .int .i64 ((c7 + 1) % 7), .int .i64 (c8 + 1)] 24
  clear ba_6
  have bd_7 := Blk8.new w6 (.int .i64 c1) (.int .i64 c2) (.int .i64 (c3 + 1)) (.int .i64 0) (.int .i64 0) (.int .i64 0) (.int .i64 ((c7 + 1) % 7)) (.int .i64 (c8 + 1)) 24
  clear L6
  generalize (w6.alloc (.cells #[.int .i64 c1, .int .i64 c2, .int .i64 (c3 + 1), .int .i64 0, .int .i64 0, .int .i64 0, .int .i64 ((c7 + 1) % 7), .int .i64 (c8 + 1)] 24)) = v8 at *
  have pba0 := fun dr os => cell_regrown ba_7.a0 dr os
  have pba1 := fun dr os => cell_regrown ba_7.a1 dr os
  have pba2 := fun dr os => cell_regrown ba_7.a2 dr os
  have pba3 := fun dr os => cell_regrown ba_7.a3 dr os
  have pba4 := fun dr os => cell_regrown ba_7.a4 dr os
  have pba5 := fun dr os => cell_regrown ba_7.a5 dr os
  have pba6 := fun dr os => cell_regrown ba_7.a6 dr os
  have pba7 := fun dr os => cell_regrown ba_7.a7 dr os
  refine wp_region_quiet_below (by kernel_rfl) (by kernel_rfl) ?_
  repeat (any_goals (first | go_big_quiet_step ((go_at_call 20; exact Calls.regrown_of (HD _))) | quiet_step ((go_at_call 20; exact Calls.regrown_of (HD _)))))
  refine wpQuiet_nil ?_
  intro _ hw'
  obtain ⟨⟨dq9, osq9⟩, hw''⟩ := hw'
  subst hw''
  clear pba0 pba1 pba2 pba3 pba4 pba5 pba6 pba7
  have L9 := L7.trans ((below_regrown v8 dq9 osq9).mono L7.size)
  have ba_9 := ba_7.below (below_regrown v8 dq9 osq9)
  clear ba_7
  have bd_9 := bd_7.below (below_regrown v8 dq9 osq9)
  clear bd_7
  clear L7
  generalize (Go.Sort.grow (redrawn v8 dq9) osq9) = v10 at *
  obtain ⟨balt, bac0, bac1, bac2, bac3, bac4, bac5, bac6, bac7, bafz⟩ := ba_9
  obtain ⟨bdlt, bdc0, bdc1, bdc2, bdc3, bdc4, bdc5, bdc6, bdc7, bdfz⟩ := bd_9
  go_wp2_with fail
  have ba_9 : Blk8 _ _ _ _ _ _ _ _ _ _ := ⟨balt, bac0, bac1, bac2, bac3, bac4, bac5, bac6, bac7, bafz⟩
  clear balt bac0 bac1 bac2 bac3 bac4 bac5 bac6 bac7 bafz
  have bd_9 : Blk8 _ _ _ _ _ _ _ _ _ _ := ⟨bdlt, bdc0, bdc1, bdc2, bdc3, bdc4, bdc5, bdc6, bdc7, bdfz⟩
  clear bdlt bdc0 bdc1 bdc2 bdc3 bdc4 bdc5 bdc6 bdc7 bdfz
  go_ret
  exact ⟨rfl, L9⟩
set_option maxRecDepth 100000 in
set_option maxHeartbeats 1000000 in
theorem CivilThere_mon (s o : Int) (s1 : -1000000000000000 ≤ s) (s2 : s ≤ 1000000000000000) (c1 c2 c3 c4 c5 c6 c7 c8 : Int) (_b1 : -9999 ≤ c1) (_b2 : c1 ≤ 9999) (_b3 : 1 ≤ c2) (_b4 : c2 ≤ 12) (_b5 : 1 ≤ c3) (_b6 : c3 ≤ 31) (_b7 : 0 ≤ c4) (_b8 : c4 ≤ 23) (_b9 : 0 ≤ c5) (_b10 : c5 ≤ 59) (_b11 : 0 ≤ c6) (_b12 : c6 ≤ 59) (_b13 : 0 ≤ c7) (_b14 : c7 ≤ 6) (_b15 : 1 ≤ c8) (_b16 : c8 ≤ 20000000) (t1 : ¬ c6 < 59) (t2 : ¬ c5 < 59) (t3 : ¬ c4 < 23) (D : Int) (_D1 : 0 ≤ D) (_D2 : D ≤ 31) (t4 : ¬ c3 < D) (t5 : c2 < 12) (HD : (∀ w : World, Calls Try.prog 20 #[.int .i64 c1, .int .i64 c2] w fun e w' => e = .returned (.int .i64 D) ∧ Below w.heap.size w w')) (HA : (∀ w : World, Calls Try.prog 12 #[.int .i64 s, .int .i64 o] w fun e w' => e = .returned (.tuple #[CV c1 c2 c3 c4 c5 c6 c7 c8, .int .i64 0]) ∧ Below w.heap.size w w')) (HS : (∀ w : World, Calls Try.prog 22 #[CV c1 c2 c3 c4 c5 c6 c7 c8, .int .i64 o] w fun e w' => e = .returned (.tuple #[.int .i64 s, .int .i64 0]) ∧ Below w.heap.size w w')) (HC : (∀ w : World, Calls Try.prog 24 #[CV c1 c2 c3 c4 c5 c6 c7 c8] w fun e w' => e = .returned (.int .i64 0) ∧ Below w.heap.size w w')) (HB : (∀ w : World, Calls Try.prog 12 #[.int .i64 (s + 1), .int .i64 o] w fun e w' => e = .returned (.tuple #[CV c1 (c2 + 1) 1 0 0 0 ((c7 + 1) % 7) (c8 + 1), .int .i64 0]) ∧ Below w.heap.size w w')) (w : World) :
    Calls Try.prog 6 #[.int .i64 s, .int .i64 o] w fun e w' => e = .returned (.bool true) ∧ Below w.heap.size w w' := by
  unfold CV at *
  go_enter Try.func6, Try.ntmps6
  have L0 : Below w.heap.size w w := Below.refl _ _
  go_wp2_with fail
  refine (wakes_any _).mono ?_
  rintro e w1 ⟨rfl, hb⟩
  have L1 := L0.trans (hb.mono L0.size)
  clear hb
  clear L0
  go_wp2_with fail
  refine (HA _).mono ?_
  rintro e w2 ⟨rfl, hb⟩
  have L2 := L1.trans (hb.mono L1.size)
  clear hb
  clear L1
  have hsz := L2.size
  go_wp2_with fail
  have L3 : Below w.heap.size w (w2.alloc (.cells #[.int .i64 c1, .int .i64 c2, .int .i64 c3, .int .i64 c4, .int .i64 c5, .int .i64 c6, .int .i64 c7, .int .i64 c8] 24)) := L2.alloc L2.size _
  have ba_3 := Blk8.new w2 (.int .i64 c1) (.int .i64 c2) (.int .i64 c3) (.int .i64 c4) (.int .i64 c5) (.int .i64 c6) (.int .i64 c7) (.int .i64 c8) 24
  clear L2
  refine (HS _).mono ?_
  rintro e w4 ⟨rfl, hb⟩
  have L4 := L3.trans (hb.mono L3.size)
  have ba_4 := ba_3.below hb
  clear ba_3
  clear hb
  clear L3
  obtain ⟨balt, bac0, bac1, bac2, bac3, bac4, bac5, bac6, bac7, bafz⟩ := ba_4
  go_wp2_with fail
  have ba_4 : Blk8 _ _ _ _ _ _ _ _ _ _ := ⟨balt, bac0, bac1, bac2, bac3, bac4, bac5, bac6, bac7, bafz⟩
  clear balt bac0 bac1 bac2 bac3 bac4 bac5 bac6 bac7 bafz
  refine (HC _).mono ?_
  rintro e w5 ⟨rfl, hb⟩
  have L5 := L4.trans (hb.mono L4.size)
  have ba_5 := ba_4.below hb
  clear ba_4
  clear hb
  clear L4
  obtain ⟨balt, bac0, bac1, bac2, bac3, bac4, bac5, bac6, bac7, bafz⟩ := ba_5
  go_wp2_with fail
  have ba_5 : Blk8 _ _ _ _ _ _ _ _ _ _ := ⟨balt, bac0, bac1, bac2, bac3, bac4, bac5, bac6, bac7, bafz⟩
  clear balt bac0 bac1 bac2 bac3 bac4 bac5 bac6 bac7 bafz
  refine (HB _).mono ?_
  rintro e w6 ⟨rfl, hb⟩
  have L6 := L5.trans (hb.mono L5.size)
  have ba_6 := ba_5.below hb
  clear ba_5
  clear hb
  clear L5
  obtain ⟨balt, bac0, bac1, bac2, bac3, bac4, bac5, bac6, bac7, bafz⟩ := ba_6
  go_wp2_with fail
  have ba_6 : Blk8 _ _ _ _ _ _ _ _ _ _ := ⟨balt, bac0, bac1, bac2, bac3, bac4, bac5, bac6, bac7, bafz⟩
  clear balt bac0 bac1 bac2 bac3 bac4 bac5 bac6 bac7 bafz
  have L7 : Below w.heap.size w (w6.alloc (.cells #[.int .i64 c1, .int .i64 (c2 + 1), .int .i64 1, .int .i64 0, .int .i64 0, .int .i64 0, .int .i64 ((c7 + 1) % 7), .int .i64 (c8 + 1)] 24)) := L6.alloc L6.size _
  have ba_7 := ba_6.alloc #[.int .i64 c1, .int .i64 (c2 + 1), .int .i64 1, .int .i64 0, .int .i64 0, .int .i64 0, .int .i64 ((c7 + 1) % 7), .int .i64 (c8 + 1)] 24
  clear ba_6
  have bd_7 := Blk8.new w6 (.int .i64 c1) (.int .i64 (c2 + 1)) (.int .i64 1) (.int .i64 0) (.int .i64 0) (.int .i64 0) (.int .i64 ((c7 + 1) % 7)) (.int .i64 (c8 + 1)) 24
  clear L6
  generalize (w6.alloc (.cells #[.int .i64 c1, .int .i64 (c2 + 1), .int .i64 1, .int .i64 0, .int .i64 0, .int .i64 0, .int .i64 ((c7 + 1) % 7), .int .i64 (c8 + 1)] 24)) = v8 at *
  have pba0 := fun dr os => cell_regrown ba_7.a0 dr os
  have pba1 := fun dr os => cell_regrown ba_7.a1 dr os
  have pba2 := fun dr os => cell_regrown ba_7.a2 dr os
  have pba3 := fun dr os => cell_regrown ba_7.a3 dr os
  have pba4 := fun dr os => cell_regrown ba_7.a4 dr os
  have pba5 := fun dr os => cell_regrown ba_7.a5 dr os
  have pba6 := fun dr os => cell_regrown ba_7.a6 dr os
  have pba7 := fun dr os => cell_regrown ba_7.a7 dr os
  refine wp_region_quiet_below (by kernel_rfl) (by kernel_rfl) ?_
  repeat (any_goals (first | go_big_quiet_step ((go_at_call 20; exact Calls.regrown_of (HD _))) | quiet_step ((go_at_call 20; exact Calls.regrown_of (HD _)))))
  refine wpQuiet_nil ?_
  intro _ hw'
  obtain ⟨⟨dq9, osq9⟩, hw''⟩ := hw'
  subst hw''
  clear pba0 pba1 pba2 pba3 pba4 pba5 pba6 pba7
  have L9 := L7.trans ((below_regrown v8 dq9 osq9).mono L7.size)
  have ba_9 := ba_7.below (below_regrown v8 dq9 osq9)
  clear ba_7
  have bd_9 := bd_7.below (below_regrown v8 dq9 osq9)
  clear bd_7
  clear L7
  generalize (Go.Sort.grow (redrawn v8 dq9) osq9) = v10 at *
  obtain ⟨balt, bac0, bac1, bac2, bac3, bac4, bac5, bac6, bac7, bafz⟩ := ba_9
  obtain ⟨bdlt, bdc0, bdc1, bdc2, bdc3, bdc4, bdc5, bdc6, bdc7, bdfz⟩ := bd_9
  go_wp2_with fail
  have ba_9 : Blk8 _ _ _ _ _ _ _ _ _ _ := ⟨balt, bac0, bac1, bac2, bac3, bac4, bac5, bac6, bac7, bafz⟩
  clear balt bac0 bac1 bac2 bac3 bac4 bac5 bac6 bac7 bafz
  have bd_9 : Blk8 _ _ _ _ _ _ _ _ _ _ := ⟨bdlt, bdc0, bdc1, bdc2, bdc3, bdc4, bdc5, bdc6, bdc7, bdfz⟩
  clear bdlt bdc0 bdc1 bdc2 bdc3 bdc4 bdc5 bdc6 bdc7 bdfz
  go_ret
  exact ⟨rfl, L9⟩
set_option maxRecDepth 100000 in
set_option maxHeartbeats 1000000 in
theorem CivilThere_yr (s o : Int) (s1 : -1000000000000000 ≤ s) (s2 : s ≤ 1000000000000000) (c1 c2 c3 c4 c5 c6 c7 c8 : Int) (_b1 : -9999 ≤ c1) (_b2 : c1 ≤ 9999) (_b3 : 1 ≤ c2) (_b4 : c2 ≤ 12) (_b5 : 1 ≤ c3) (_b6 : c3 ≤ 31) (_b7 : 0 ≤ c4) (_b8 : c4 ≤ 23) (_b9 : 0 ≤ c5) (_b10 : c5 ≤ 59) (_b11 : 0 ≤ c6) (_b12 : c6 ≤ 59) (_b13 : 0 ≤ c7) (_b14 : c7 ≤ 6) (_b15 : 1 ≤ c8) (_b16 : c8 ≤ 20000000) (t1 : ¬ c6 < 59) (t2 : ¬ c5 < 59) (t3 : ¬ c4 < 23) (D : Int) (_D1 : 0 ≤ D) (_D2 : D ≤ 31) (t4 : ¬ c3 < D) (t5 : ¬ c2 < 12) (HD : (∀ w : World, Calls Try.prog 20 #[.int .i64 c1, .int .i64 c2] w fun e w' => e = .returned (.int .i64 D) ∧ Below w.heap.size w w')) (HA : (∀ w : World, Calls Try.prog 12 #[.int .i64 s, .int .i64 o] w fun e w' => e = .returned (.tuple #[CV c1 c2 c3 c4 c5 c6 c7 c8, .int .i64 0]) ∧ Below w.heap.size w w')) (HS : (∀ w : World, Calls Try.prog 22 #[CV c1 c2 c3 c4 c5 c6 c7 c8, .int .i64 o] w fun e w' => e = .returned (.tuple #[.int .i64 s, .int .i64 0]) ∧ Below w.heap.size w w')) (HC : (∀ w : World, Calls Try.prog 24 #[CV c1 c2 c3 c4 c5 c6 c7 c8] w fun e w' => e = .returned (.int .i64 0) ∧ Below w.heap.size w w')) (HB : (∀ w : World, Calls Try.prog 12 #[.int .i64 (s + 1), .int .i64 o] w fun e w' => e = .returned (.tuple #[CV (c1 + 1) 1 1 0 0 0 ((c7 + 1) % 7) 1, .int .i64 0]) ∧ Below w.heap.size w w')) (w : World) :
    Calls Try.prog 6 #[.int .i64 s, .int .i64 o] w fun e w' => e = .returned (.bool true) ∧ Below w.heap.size w w' := by
  unfold CV at *
  go_enter Try.func6, Try.ntmps6
  have L0 : Below w.heap.size w w := Below.refl _ _
  go_wp2_with fail
  refine (wakes_any _).mono ?_
  rintro e w1 ⟨rfl, hb⟩
  have L1 := L0.trans (hb.mono L0.size)
  clear hb
  clear L0
  go_wp2_with fail
  refine (HA _).mono ?_
  rintro e w2 ⟨rfl, hb⟩
  have L2 := L1.trans (hb.mono L1.size)
  clear hb
  clear L1
  have hsz := L2.size
  go_wp2_with fail
  have L3 : Below w.heap.size w (w2.alloc (.cells #[.int .i64 c1, .int .i64 c2, .int .i64 c3, .int .i64 c4, .int .i64 c5, .int .i64 c6, .int .i64 c7, .int .i64 c8] 24)) := L2.alloc L2.size _
  have ba_3 := Blk8.new w2 (.int .i64 c1) (.int .i64 c2) (.int .i64 c3) (.int .i64 c4) (.int .i64 c5) (.int .i64 c6) (.int .i64 c7) (.int .i64 c8) 24
  clear L2
  refine (HS _).mono ?_
  rintro e w4 ⟨rfl, hb⟩
  have L4 := L3.trans (hb.mono L3.size)
  have ba_4 := ba_3.below hb
  clear ba_3
  clear hb
  clear L3
  obtain ⟨balt, bac0, bac1, bac2, bac3, bac4, bac5, bac6, bac7, bafz⟩ := ba_4
  go_wp2_with fail
  have ba_4 : Blk8 _ _ _ _ _ _ _ _ _ _ := ⟨balt, bac0, bac1, bac2, bac3, bac4, bac5, bac6, bac7, bafz⟩
  clear balt bac0 bac1 bac2 bac3 bac4 bac5 bac6 bac7 bafz
  refine (HC _).mono ?_
  rintro e w5 ⟨rfl, hb⟩
  have L5 := L4.trans (hb.mono L4.size)
  have ba_5 := ba_4.below hb
  clear ba_4
  clear hb
  clear L4
  obtain ⟨balt, bac0, bac1, bac2, bac3, bac4, bac5, bac6, bac7, bafz⟩ := ba_5
  go_wp2_with fail
  have ba_5 : Blk8 _ _ _ _ _ _ _ _ _ _ := ⟨balt, bac0, bac1, bac2, bac3, bac4, bac5, bac6, bac7, bafz⟩
  clear balt bac0 bac1 bac2 bac3 bac4 bac5 bac6 bac7 bafz
  refine (HB _).mono ?_
  rintro e w6 ⟨rfl, hb⟩
  have L6 := L5.trans (hb.mono L5.size)
  have ba_6 := ba_5.below hb
  clear ba_5
  clear hb
  clear L5
  obtain ⟨balt, bac0, bac1, bac2, bac3, bac4, bac5, bac6, bac7, bafz⟩ := ba_6
  go_wp2_with fail
  have ba_6 : Blk8 _ _ _ _ _ _ _ _ _ _ := ⟨balt, bac0, bac1, bac2, bac3, bac4, bac5, bac6, bac7, bafz⟩
  clear balt bac0 bac1 bac2 bac3 bac4 bac5 bac6 bac7 bafz
  have L7 : Below w.heap.size w (w6.alloc (.cells #[.int .i64 (c1 + 1), .int .i64 1, .int .i64 1, .int .i64 0, .int .i64 0, .int .i64 0, .int .i64 ((c7 + 1) % 7), .int .i64 1] 24)) := L6.alloc L6.size _
  have ba_7 := ba_6.alloc #[.int .i64 (c1 + 1), .int .i64 1, .int .i64 1, .int .i64 0, .int .i64 0, .int .i64 0, .int .i64 ((c7 + 1) % 7), .int .i64 1] 24
  clear ba_6
  have bd_7 := Blk8.new w6 (.int .i64 (c1 + 1)) (.int .i64 1) (.int .i64 1) (.int .i64 0) (.int .i64 0) (.int .i64 0) (.int .i64 ((c7 + 1) % 7)) (.int .i64 1) 24
  clear L6
  generalize (w6.alloc (.cells #[.int .i64 (c1 + 1), .int .i64 1, .int .i64 1, .int .i64 0, .int .i64 0, .int .i64 0, .int .i64 ((c7 + 1) % 7), .int .i64 1] 24)) = v8 at *
  have pba0 := fun dr os => cell_regrown ba_7.a0 dr os
  have pba1 := fun dr os => cell_regrown ba_7.a1 dr os
  have pba2 := fun dr os => cell_regrown ba_7.a2 dr os
  have pba3 := fun dr os => cell_regrown ba_7.a3 dr os
  have pba4 := fun dr os => cell_regrown ba_7.a4 dr os
  have pba5 := fun dr os => cell_regrown ba_7.a5 dr os
  have pba6 := fun dr os => cell_regrown ba_7.a6 dr os
  have pba7 := fun dr os => cell_regrown ba_7.a7 dr os
  refine wp_region_quiet_below (by kernel_rfl) (by kernel_rfl) ?_
  repeat (any_goals (first | go_big_quiet_step ((go_at_call 20; exact Calls.regrown_of (HD _))) | quiet_step ((go_at_call 20; exact Calls.regrown_of (HD _)))))
  refine wpQuiet_nil ?_
  intro _ hw'
  obtain ⟨⟨dq9, osq9⟩, hw''⟩ := hw'
  subst hw''
  clear pba0 pba1 pba2 pba3 pba4 pba5 pba6 pba7
  have L9 := L7.trans ((below_regrown v8 dq9 osq9).mono L7.size)
  have ba_9 := ba_7.below (below_regrown v8 dq9 osq9)
  clear ba_7
  have bd_9 := bd_7.below (below_regrown v8 dq9 osq9)
  clear bd_7
  clear L7
  generalize (Go.Sort.grow (redrawn v8 dq9) osq9) = v10 at *
  obtain ⟨balt, bac0, bac1, bac2, bac3, bac4, bac5, bac6, bac7, bafz⟩ := ba_9
  obtain ⟨bdlt, bdc0, bdc1, bdc2, bdc3, bdc4, bdc5, bdc6, bdc7, bdfz⟩ := bd_9
  go_wp2_with fail
  have ba_9 : Blk8 _ _ _ _ _ _ _ _ _ _ := ⟨balt, bac0, bac1, bac2, bac3, bac4, bac5, bac6, bac7, bafz⟩
  clear balt bac0 bac1 bac2 bac3 bac4 bac5 bac6 bac7 bafz
  have bd_9 : Blk8 _ _ _ _ _ _ _ _ _ _ := ⟨bdlt, bdc0, bdc1, bdc2, bdc3, bdc4, bdc5, bdc6, bdc7, bdfz⟩
  clear bdlt bdc0 bdc1 bdc2 bdc3 bdc4 bdc5 bdc6 bdc7 bdfz
  go_ret
  exact ⟨rfl, L9⟩
theorem CivilThere_any (s o : Int) (w : World) :
    Calls Try.prog 6 #[.int .i64 s, .int .i64 o] w fun e w' => e = .returned (.bool true) ∧ Below w.heap.size w w' := by
  by_cases ho : -86399 ≤ o ∧ o ≤ 86399
  · obtain ⟨o1, o2⟩ := ho
    by_cases hs : -1099511627776 ≤ s ∧ s ≤ 1099511627776
    · by_cases hy : -9999 ≤ Cal.Year ((s + o) / 86400) ∧ Cal.Year ((s + o) / 86400) ≤ 9999
      · obtain ⟨c1, c2, c3, c4, c5, c6, c7, c8, rc, nc, tc, HA⟩ := Of_to s o o1 o2 hs.1 hs.2 hy.1 hy.2
        obtain ⟨y1, y2, m1, m2, _, _, n1, n2, ey, s1, s2⟩ := Rt_num rc
        obtain ⟨b1, b2, b3, b4, b5, b6, b7, b8, b9, b10, b11, b12, b13, b14, b15⟩ := Rt_yd rc
        have dp := Cal.dim_pos c1 c2
        have HC := Check_yes c1 c2 c3 c4 c5 c6 c7 c8 rc
        have HS := Seconds_ok c1 c2 c3 c4 c5 c6 c7 c8 o rc o1 o2
        rw [show Cal.num c1 c2 c3 * 86400 + (c4 * 3600 + c5 * 60 + c6) - o = s by omega] at HS
        have HD := dayP c1 c2
        rw [b13] at HD
        by_cases t1 : c6 < 59
        · have rd : Rt c1 c2 c3 c4 c5 (c6 + 1) c7 c8 := Rt_mk y1 y2 m1 m2 b11 (by omega) (by omega) b14 b15
          exact CivilThere_sec s o (by omega) (by omega) c1 c2 c3 c4 c5 c6 c7 c8 y1 y2 m1 m2 b11 (by omega) b5 b6 b7 b8 b9 b10 b3 b4 b1 b2 t1 HA HS HC (Of_is (s + 1) o o1 o2 rd (by omega) (by omega)) w
        by_cases t2 : c5 < 59
        · have rd : Rt c1 c2 c3 c4 (c5 + 1) 0 c7 c8 := Rt_mk y1 y2 m1 m2 b11 (by omega) (by omega) b14 b15
          exact CivilThere_min s o (by omega) (by omega) c1 c2 c3 c4 c5 c6 c7 c8 y1 y2 m1 m2 b11 (by omega) b5 b6 b7 b8 b9 b10 b3 b4 b1 b2 t1 t2 HA HS HC (Of_is (s + 1) o o1 o2 rd (by omega) (by omega)) w
        by_cases t3 : c4 < 23
        · have rd : Rt c1 c2 c3 (c4 + 1) 0 0 c7 c8 := Rt_mk y1 y2 m1 m2 b11 (by omega) (by omega) b14 b15
          exact CivilThere_hr s o (by omega) (by omega) c1 c2 c3 c4 c5 c6 c7 c8 y1 y2 m1 m2 b11 (by omega) b5 b6 b7 b8 b9 b10 b3 b4 b1 b2 t1 t2 t3 HA HS HC (Of_is (s + 1) o o1 o2 rd (by omega) (by omega)) w
        by_cases t4 : c3 < Cal.dim c1 c2
        · have nd := num_day c1 c2 c3
          have rd : Rt c1 c2 (c3 + 1) 0 0 0 ((c7 + 1) % 7) (c8 + 1) := Rt_mk y1 y2 m1 m2 (by omega) (by omega) (by omega) (by omega) (by omega)
          exact CivilThere_day s o (by omega) (by omega) c1 c2 c3 c4 c5 c6 c7 c8 y1 y2 m1 m2 b11 (by omega) b5 b6 b7 b8 b9 b10 b3 b4 b1 b2 t1 t2 t3 _ (by omega) (by omega) t4 HD HA HS HC (Of_is (s + 1) o o1 o2 rd (by omega) (by omega)) w
        have e3 : c3 = Cal.dim c1 c2 := by omega
        by_cases t5 : c2 < 12
        · have nd := num_month c1 c2 m1 m2
          rw [← e3] at nd
          have dq := Cal.dim_pos c1 (c2 + 1)
          have rd : Rt c1 (c2 + 1) 1 0 0 0 ((c7 + 1) % 7) (c8 + 1) := Rt_mk y1 y2 (by omega) (by omega) (by omega) (by omega) (by omega) (by omega) (by omega)
          exact CivilThere_mon s o (by omega) (by omega) c1 c2 c3 c4 c5 c6 c7 c8 y1 y2 m1 m2 b11 (by omega) b5 b6 b7 b8 b9 b10 b3 b4 b1 b2 t1 t2 t3 _ (by omega) (by omega) t4 t5 HD HA HS HC (Of_is (s + 1) o o1 o2 rd (by omega) (by omega)) w
        have e2 : c2 = 12 := by omega
        subst e2
        rw [dim12] at e3 HD t4
        subst e3
        have nd := num_year c1
        have dq := Cal.dim_pos (c1 + 1) 1
        by_cases t6 : c1 < 9999
        · have rd : Rt (c1 + 1) 1 1 0 0 0 ((c7 + 1) % 7) 1 := Rt_mk (by omega) (by omega) (by omega) (by omega) (by omega) (by omega) (by omega) (by omega) (by omega)
          exact CivilThere_yr s o (by omega) (by omega) c1 12 31 c4 c5 c6 c7 c8 y1 y2 m1 m2 b11 (by omega) b5 b6 b7 b8 b9 b10 b3 b4 b1 b2 t1 t2 t3 _ (by omega) (by omega) t4 (by omega) HD HA HS HC (Of_is (s + 1) o o1 o2 rd (by omega) (by omega)) w
        · obtain rfl : c1 = 9999 := by omega
          obtain rfl : c4 = 23 := by omega
          obtain rfl : c5 = 59 := by omega
          obtain rfl : c6 = 59 := by omega
          have v : Cal.valid (9999 + 1) 1 1 := ⟨by omega, by omega, by omega, by omega⟩
          have yv := (Cal.told_num v).1
          have en : (s + 1 + o) / 86400 = Cal.num (9999 + 1) 1 1 := by omega
          exact CivilThere_end s o (by omega) (by omega) c7 c8 HA HS HC (Of_no (s + 1) o o1 o2 (by omega) (by omega) (by rw [en]; omega)) w
      · exact CivilThere_no s o 7 rfl (Of_no s o o1 o2 hs.1 hs.2 hy) w
    · exact CivilThere_no s o 7 rfl (Of_range s o o1 o2 hs) w
  · exact CivilThere_no s o 2 rfl (Of_arg s o ho) w
end Go.Proofs.Ytafoodfbjebdcaa
