/-
  Contracts of civil.second and civil.Check: Check returns OK of a civil that may be, and ErrArg of every other. No condition.
-/
import Derived.Test.YtafoodfbjebdcaaE
import Derived.WalkKit
import Derived.ProofKit
import Derived.Deep.QuietTactic
import Derived.BigQuiet
import Derived.Lib.Hide
import Derived.WalkLawsBesides
import Derived.Lib.QuietBelow
import Derived.Deep.RegionHeld3
import Derived.Deep.DrawnRows
namespace Go.Proofs.Ytafoodfbjebdcaa
attribute [local go_sem ↓] Go.wp_at_zero Go.wp_at_succ
open Go.ChangeShapes Go.WideShapes Go.ChangeAt Go.RowKit
def CV (y mo d h mi s wd yd : Int) : Value := .agg #[.int .i64 y, .int .i64 mo, .int .i64 d, .int .i64 h, .int .i64 mi, .int .i64 s, .int .i64 wd, .int .i64 yd]
theorem second_any (y mo d h mi s wd yd : Int) (h0 : 0 ≤ h) (h1 : h ≤ 23) (m0 : 0 ≤ mi) (m1 : mi ≤ 59) (s0 : 0 ≤ s) (s1 : s ≤ 59) (w : World) :
    Calls Try.prog 41 #[CV y mo d h mi s wd yd] w fun e w' => e = .returned (.int .i64 (h * 3600 + mi * 60 + s)) ∧ Below w.heap.size w w' := by
  unfold CV
  go_enter Try.func41, Try.ntmps41
  go_wp2_with fail
  go_ret
  exact ⟨rfl, (Below.refl _ _).alloc (Nat.le_refl _) _⟩
theorem Check_day (y mo d h mi s wd yd : Int) (hd : 1 ≤ d) (hd2 : ¬ d ≤ Cal.days y mo) (w : World) :
    Calls Try.prog 24 #[CV y mo d h mi s wd yd] w fun e w' => e = .returned (.int .i64 2) ∧ Below w.heap.size w w' := by
  unfold CV
  go_enter Try.func24, Try.ntmps24
  go_wp2_with fail
  have q0 : (w.alloc (.cells #[.int .i64 y, .int .i64 mo, .int .i64 d, .int .i64 h, .int .i64 mi, .int .i64 s, .int .i64 wd, .int .i64 yd] 24)).cell? ⟨w.heap.size, 0, none⟩ = some (.int .i64 y) := by simp
  have q1 : (w.alloc (.cells #[.int .i64 y, .int .i64 mo, .int .i64 d, .int .i64 h, .int .i64 mi, .int .i64 s, .int .i64 wd, .int .i64 yd] 24)).cell? ⟨w.heap.size, 1, none⟩ = some (.int .i64 mo) := by simp
  have q2 : (w.alloc (.cells #[.int .i64 y, .int .i64 mo, .int .i64 d, .int .i64 h, .int .i64 mi, .int .i64 s, .int .i64 wd, .int .i64 yd] 24)).cell? ⟨w.heap.size, 2, none⟩ = some (.int .i64 d) := by simp
  have hB : Below w.heap.size w (w.alloc (.cells #[.int .i64 y, .int .i64 mo, .int .i64 d, .int .i64 h, .int .i64 mi, .int .i64 s, .int .i64 wd, .int .i64 yd] 24)) := (Below.refl _ _).alloc (Nat.le_refl _) _
  have hz : w.heap.size < (w.alloc (.cells #[.int .i64 y, .int .i64 mo, .int .i64 d, .int .i64 h, .int .i64 mi, .int .i64 s, .int .i64 wd, .int .i64 yd] 24)).heap.size := by simp
  generalize w.alloc (.cells #[.int .i64 y, .int .i64 mo, .int .i64 d, .int .i64 h, .int .i64 mi, .int .i64 s, .int .i64 wd, .int .i64 yd] 24) = W at *
  have p0 := fun dr os => cell_regrown q0 dr os
  have p1 := fun dr os => cell_regrown q1 dr os
  have p2 := fun dr os => cell_regrown q2 dr os
  refine wp_region_quiet_below (by kernel_rfl) (by kernel_rfl) ?_
  repeat (quiet_step ((go_at_call 20; exact Calls.regrown_of (dayP _ _ _))))
  refine wpQuiet_nil ?_
  intro _ hw'
  obtain ⟨⟨dq, osq⟩, hw''⟩ := hw'
  subst hw''
  go_wp2_with fail
  go_ret
  exact ⟨rfl, hB.trans ((below_regrown W dq osq).mono hB.size)⟩
theorem Check_time (y mo d h mi s wd yd : Int) (hd : 1 ≤ d) (hd2 : d ≤ Cal.days y mo) (ht : ¬ (0 ≤ h ∧ h ≤ 23 ∧ 0 ≤ mi ∧ mi ≤ 59 ∧ 0 ≤ s ∧ s ≤ 59)) (w : World) :
    Calls Try.prog 24 #[CV y mo d h mi s wd yd] w fun e w' => e = .returned (.int .i64 2) ∧ Below w.heap.size w w' := by
  have HT := Lib.hid ht
  clear ht
  unfold CV
  go_enter Try.func24, Try.ntmps24
  go_wp2_with fail
  have q0 : (w.alloc (.cells #[.int .i64 y, .int .i64 mo, .int .i64 d, .int .i64 h, .int .i64 mi, .int .i64 s, .int .i64 wd, .int .i64 yd] 24)).cell? ⟨w.heap.size, 0, none⟩ = some (.int .i64 y) := by simp
  have q1 : (w.alloc (.cells #[.int .i64 y, .int .i64 mo, .int .i64 d, .int .i64 h, .int .i64 mi, .int .i64 s, .int .i64 wd, .int .i64 yd] 24)).cell? ⟨w.heap.size, 1, none⟩ = some (.int .i64 mo) := by simp
  have q2 : (w.alloc (.cells #[.int .i64 y, .int .i64 mo, .int .i64 d, .int .i64 h, .int .i64 mi, .int .i64 s, .int .i64 wd, .int .i64 yd] 24)).cell? ⟨w.heap.size, 2, none⟩ = some (.int .i64 d) := by simp
  have q3 : (w.alloc (.cells #[.int .i64 y, .int .i64 mo, .int .i64 d, .int .i64 h, .int .i64 mi, .int .i64 s, .int .i64 wd, .int .i64 yd] 24)).cell? ⟨w.heap.size, 3, none⟩ = some (.int .i64 h) := by simp
  have q4 : (w.alloc (.cells #[.int .i64 y, .int .i64 mo, .int .i64 d, .int .i64 h, .int .i64 mi, .int .i64 s, .int .i64 wd, .int .i64 yd] 24)).cell? ⟨w.heap.size, 4, none⟩ = some (.int .i64 mi) := by simp
  have q5 : (w.alloc (.cells #[.int .i64 y, .int .i64 mo, .int .i64 d, .int .i64 h, .int .i64 mi, .int .i64 s, .int .i64 wd, .int .i64 yd] 24)).cell? ⟨w.heap.size, 5, none⟩ = some (.int .i64 s) := by simp
  have q6 : (w.alloc (.cells #[.int .i64 y, .int .i64 mo, .int .i64 d, .int .i64 h, .int .i64 mi, .int .i64 s, .int .i64 wd, .int .i64 yd] 24)).cell? ⟨w.heap.size, 6, none⟩ = some (.int .i64 wd) := by simp
  have q7 : (w.alloc (.cells #[.int .i64 y, .int .i64 mo, .int .i64 d, .int .i64 h, .int .i64 mi, .int .i64 s, .int .i64 wd, .int .i64 yd] 24)).cell? ⟨w.heap.size, 7, none⟩ = some (.int .i64 yd) := by simp
  have hB : Below w.heap.size w (w.alloc (.cells #[.int .i64 y, .int .i64 mo, .int .i64 d, .int .i64 h, .int .i64 mi, .int .i64 s, .int .i64 wd, .int .i64 yd] 24)) := (Below.refl _ _).alloc (Nat.le_refl _) _
  have hz : w.heap.size < (w.alloc (.cells #[.int .i64 y, .int .i64 mo, .int .i64 d, .int .i64 h, .int .i64 mi, .int .i64 s, .int .i64 wd, .int .i64 yd] 24)).heap.size := by simp
  generalize w.alloc (.cells #[.int .i64 y, .int .i64 mo, .int .i64 d, .int .i64 h, .int .i64 mi, .int .i64 s, .int .i64 wd, .int .i64 yd] 24) = W at *
  have p0 := fun dr os => cell_regrown q0 dr os
  have p1 := fun dr os => cell_regrown q1 dr os
  have p2 := fun dr os => cell_regrown q2 dr os
  refine wp_region_quiet_below (by kernel_rfl) (by kernel_rfl) ?_
  repeat (quiet_step ((go_at_call 20; exact Calls.regrown_of (dayP _ _ _))))
  refine wpQuiet_nil ?_
  intro _ hw'
  obtain ⟨⟨dq, osq⟩, hw''⟩ := hw'
  subst hw''
  have hB2 := hB.trans ((below_regrown W dq osq).mono hB.size)
  have hz2 : w.heap.size < (Go.Sort.grow (redrawn W dq) osq).heap.size := Nat.lt_of_lt_of_le hz (below_regrown W dq osq).size
  have r0 := cell_regrown q0 dq osq
  have r1 := cell_regrown q1 dq osq
  have r2 := cell_regrown q2 dq osq
  have r3 := cell_regrown q3 dq osq
  have r4 := cell_regrown q4 dq osq
  have r5 := cell_regrown q5 dq osq
  have r6 := cell_regrown q6 dq osq
  have r7 := cell_regrown q7 dq osq
  generalize Go.Sort.grow (redrawn W dq) osq = V at *
  clear p0 p1 p2 q0 q1 q2 q3 q4 q5 q6 q7 hB hz
  go_wp2_with fail
  all_goals first | (go_ret; exact ⟨rfl, hB2⟩) | (exfalso; exact HT.out ⟨by omega, by omega, by omega, by omega, by omega, by omega⟩)
theorem num_in2 {y m d : Int} (hy : -9999 ≤ y) (hy2 : y ≤ 9999) (hd : 1 ≤ d) (hd2 : d ≤ 31) : -5000000 ≤ Cal.num y m d ∧ Cal.num y m d ≤ 5000000 := by
  have a := CivT.fst_in (y := y) (by omega) (by omega)
  have b := CivT.cum_in y m
  unfold Cal.num; omega
theorem civ_of {y mo d h mi s : Int} (hv : Cal.valid y mo d) (m0 : 0 ≤ mi) (m1 : mi ≤ 59) (s0 : 0 ≤ s) (s1 : s ≤ 59) :
    civ (Cal.num y mo d) (h * 3600 + mi * 60 + s) = CV y mo d h mi s ((Cal.num y mo d + 4) % 7) (Cal.num y mo d - Cal.num y 1 1 + 1) := by
  obtain ⟨a, b, c⟩ := Cal.told_num hv
  unfold civ CV
  rw [a, b, c, show (h * 3600 + mi * 60 + s) / 3600 = h by omega, show (h * 3600 + mi * 60 + s) / 60 % 60 = mi by omega, show (h * 3600 + mi * 60 + s) % 60 = s by omega]
set_option maxHeartbeats 1000000 in
theorem Check_ok (y mo d h mi s : Int) (hy : -9999 ≤ y) (hy2 : y ≤ 9999) (hm : 1 ≤ mo) (hm2 : mo ≤ 12) (hd : 1 ≤ d) (hd2 : d ≤ Cal.days y mo) (hd3 : d ≤ 31) (h0 : 0 ≤ h) (h1 : h ≤ 23) (m0 : 0 ≤ mi) (m1 : mi ≤ 59) (s0 : 0 ≤ s) (s1 : s ≤ 59) (w : World) :
    Calls Try.prog 24 #[CV y mo d h mi s ((Cal.num y mo d + 4) % 7) (Cal.num y mo d - Cal.num y 1 1 + 1)] w fun e w' => e = .returned (.int .i64 0) ∧ Below w.heap.size w w' := by
  have e : Cal.days y mo = Cal.dim y mo := if_pos ⟨hy, hy2, hm, hm2⟩
  have tn := Cal.told_num (y := y) (m := mo) (d := d) ⟨hm, hm2, hd, by omega⟩
  have nb := num_in2 (y := y) (m := mo) (d := d) hy hy2 hd (by omega)
  have HD := told_yes (Cal.num y mo d) (h * 3600 + mi * 60 + s) (by omega) (by omega) (by omega) (by omega) (by omega) (by omega)
  have HS := second_any y mo d h mi s ((Cal.num y mo d + 4) % 7) (Cal.num y mo d - Cal.num y 1 1 + 1) h0 h1 m0 m1 s0 s1
  rw [civ_of ⟨hm, hm2, hd, by omega⟩ m0 m1 s0 s1] at HD
  clear tn e
  unfold CV at HS HD ⊢
  go_enter Try.func24, Try.ntmps24
  go_wp2_with fail
  have q0 : (w.alloc (.cells #[.int .i64 y, .int .i64 mo, .int .i64 d, .int .i64 h, .int .i64 mi, .int .i64 s, .int .i64 ((Cal.num y mo d + 4) % 7), .int .i64 (Cal.num y mo d - Cal.num y 1 1 + 1)] 24)).cell? ⟨w.heap.size, 0, none⟩ = some (.int .i64 y) := by simp
  have q1 : (w.alloc (.cells #[.int .i64 y, .int .i64 mo, .int .i64 d, .int .i64 h, .int .i64 mi, .int .i64 s, .int .i64 ((Cal.num y mo d + 4) % 7), .int .i64 (Cal.num y mo d - Cal.num y 1 1 + 1)] 24)).cell? ⟨w.heap.size, 1, none⟩ = some (.int .i64 mo) := by simp
  have q2 : (w.alloc (.cells #[.int .i64 y, .int .i64 mo, .int .i64 d, .int .i64 h, .int .i64 mi, .int .i64 s, .int .i64 ((Cal.num y mo d + 4) % 7), .int .i64 (Cal.num y mo d - Cal.num y 1 1 + 1)] 24)).cell? ⟨w.heap.size, 2, none⟩ = some (.int .i64 d) := by simp
  have q3 : (w.alloc (.cells #[.int .i64 y, .int .i64 mo, .int .i64 d, .int .i64 h, .int .i64 mi, .int .i64 s, .int .i64 ((Cal.num y mo d + 4) % 7), .int .i64 (Cal.num y mo d - Cal.num y 1 1 + 1)] 24)).cell? ⟨w.heap.size, 3, none⟩ = some (.int .i64 h) := by simp
  have q4 : (w.alloc (.cells #[.int .i64 y, .int .i64 mo, .int .i64 d, .int .i64 h, .int .i64 mi, .int .i64 s, .int .i64 ((Cal.num y mo d + 4) % 7), .int .i64 (Cal.num y mo d - Cal.num y 1 1 + 1)] 24)).cell? ⟨w.heap.size, 4, none⟩ = some (.int .i64 mi) := by simp
  have q5 : (w.alloc (.cells #[.int .i64 y, .int .i64 mo, .int .i64 d, .int .i64 h, .int .i64 mi, .int .i64 s, .int .i64 ((Cal.num y mo d + 4) % 7), .int .i64 (Cal.num y mo d - Cal.num y 1 1 + 1)] 24)).cell? ⟨w.heap.size, 5, none⟩ = some (.int .i64 s) := by simp
  have q6 : (w.alloc (.cells #[.int .i64 y, .int .i64 mo, .int .i64 d, .int .i64 h, .int .i64 mi, .int .i64 s, .int .i64 ((Cal.num y mo d + 4) % 7), .int .i64 (Cal.num y mo d - Cal.num y 1 1 + 1)] 24)).cell? ⟨w.heap.size, 6, none⟩ = some (.int .i64 ((Cal.num y mo d + 4) % 7)) := by simp
  have q7 : (w.alloc (.cells #[.int .i64 y, .int .i64 mo, .int .i64 d, .int .i64 h, .int .i64 mi, .int .i64 s, .int .i64 ((Cal.num y mo d + 4) % 7), .int .i64 (Cal.num y mo d - Cal.num y 1 1 + 1)] 24)).cell? ⟨w.heap.size, 7, none⟩ = some (.int .i64 (Cal.num y mo d - Cal.num y 1 1 + 1)) := by simp
  have hB : Below w.heap.size w (w.alloc (.cells #[.int .i64 y, .int .i64 mo, .int .i64 d, .int .i64 h, .int .i64 mi, .int .i64 s, .int .i64 ((Cal.num y mo d + 4) % 7), .int .i64 (Cal.num y mo d - Cal.num y 1 1 + 1)] 24)) := (Below.refl _ _).alloc (Nat.le_refl _) _
  have hz : w.heap.size < (w.alloc (.cells #[.int .i64 y, .int .i64 mo, .int .i64 d, .int .i64 h, .int .i64 mi, .int .i64 s, .int .i64 ((Cal.num y mo d + 4) % 7), .int .i64 (Cal.num y mo d - Cal.num y 1 1 + 1)] 24)).heap.size := by simp
  generalize w.alloc (.cells #[.int .i64 y, .int .i64 mo, .int .i64 d, .int .i64 h, .int .i64 mi, .int .i64 s, .int .i64 ((Cal.num y mo d + 4) % 7), .int .i64 (Cal.num y mo d - Cal.num y 1 1 + 1)] 24) = W at *
  have p0 := fun dr os => cell_regrown q0 dr os
  have p1 := fun dr os => cell_regrown q1 dr os
  have p2 := fun dr os => cell_regrown q2 dr os
  refine wp_region_quiet_below (by kernel_rfl) (by kernel_rfl) ?_
  repeat (quiet_step ((go_at_call 20; exact Calls.regrown_of (dayP _ _ _))))
  refine wpQuiet_nil ?_
  intro _ hw'
  obtain ⟨⟨dq, osq⟩, hw''⟩ := hw'
  subst hw''
  have hB2 := hB.trans ((below_regrown W dq osq).mono hB.size)
  have hz2 : w.heap.size < (Go.Sort.grow (redrawn W dq) osq).heap.size := Nat.lt_of_lt_of_le hz (below_regrown W dq osq).size
  have r0 := cell_regrown q0 dq osq
  have r1 := cell_regrown q1 dq osq
  have r2 := cell_regrown q2 dq osq
  have r3 := cell_regrown q3 dq osq
  have r4 := cell_regrown q4 dq osq
  have r5 := cell_regrown q5 dq osq
  have r6 := cell_regrown q6 dq osq
  have r7 := cell_regrown q7 dq osq
  generalize Go.Sort.grow (redrawn W dq) osq = V at *
  clear p0 p1 p2 q0 q1 q2 q3 q4 q5 q6 q7 hB hz
  go_wp2_with fail
  go_region_held3 (fun w' => w'.cell? ⟨w.heap.size, 0, none⟩ = some (.int .i64 y) ∧ w'.cell? ⟨w.heap.size, 1, none⟩ = some (.int .i64 mo) ∧ w'.cell? ⟨w.heap.size, 2, none⟩ = some (.int .i64 d) ∧ w'.cell? ⟨w.heap.size, 3, none⟩ = some (.int .i64 h) ∧ w'.cell? ⟨w.heap.size, 4, none⟩ = some (.int .i64 mi) ∧ w'.cell? ⟨w.heap.size, 5, none⟩ = some (.int .i64 s) ∧ w'.cell? ⟨w.heap.size, 6, none⟩ = some (.int .i64 ((Cal.num y mo d + 4) % 7)) ∧ w'.cell? ⟨w.heap.size, 7, none⟩ = some (.int .i64 (Cal.num y mo d - Cal.num y 1 1 + 1))) (first | (with_reducible exact ⟨v0, v1, v2, v3, v4, v5, v6, v7⟩) | (with_reducible exact ⟨u0, u1, u2, u3, u4, u5, u6, u7⟩) | (refine ⟨?_, ?_, ?_, ?_, ?_, ?_, ?_, ?_⟩ <;> (repeat rw [World.cell?_setCell_far _ _ _ _ (by first | exact Ne.symm (Nat.ne_of_lt hz3) | exact Ne.symm (Nat.ne_of_lt hz2))]) <;> assumption) | go_keep) ((first | (go_at_call 36; refine (number_any y mo d (by omega) (by omega) hm hm2 (by omega) (by omega) _).mono ?_; rintro e w' ⟨rfl, k, rfl⟩) | (go_at_call 41; (have hH : World.cell? _ ⟨w.heap.size, 0, none⟩ = some (.int .i64 y) ∧ _ := (by with_reducible assumption)); obtain ⟨k0, k1, k2, k3, k4, k5, k6, k7⟩ := hH; refine (HS _).mono ?_; rintro e ws ⟨rfl, hbs⟩; obtain ⟨hxws, hfws⟩ := bcell hbs; have zz := World.block_lt_of_cell? _ _ k0; have hz3 : w.heap.size < ws.heap.size := Nat.lt_of_lt_of_le zz hbs.size; have u0 := (hxws _ 0 zz).trans k0; have u1 := (hxws _ 1 zz).trans k1; have u2 := (hxws _ 2 zz).trans k2; have u3 := (hxws _ 3 zz).trans k3; have u4 := (hxws _ 4 zz).trans k4; have u5 := (hxws _ 5 zz).trans k5; have u6 := (hxws _ 6 zz).trans k6; have u7 := (hxws _ 7 zz).trans k7; (try (have hz5 : V.heap.size < ws.heap.size := by (have q := hbs.size; simp at q; omega))); (try (have z0 : ws.cell? ⟨V.heap.size, 0, none⟩ = some (.int .i64 0) := by (refine (hxws V.heap.size 0 ?_).trans ?_ <;> (first | (simp; done) | (simp [World.drewN]; done) | (simp [go_sem, World.drewN]; done))))); (try (have z1 : ws.cell? ⟨V.heap.size, 1, none⟩ = some (.int .i64 0) := by (refine (hxws V.heap.size 1 ?_).trans ?_ <;> (first | (simp; done) | (simp [World.drewN]; done) | (simp [go_sem, World.drewN]; done))))); (try (have z2 : ws.cell? ⟨V.heap.size, 2, none⟩ = some (.int .i64 0) := by (refine (hxws V.heap.size 2 ?_).trans ?_ <;> (first | (simp; done) | (simp [World.drewN]; done) | (simp [go_sem, World.drewN]; done))))); (try (have z3 : ws.cell? ⟨V.heap.size, 3, none⟩ = some (.int .i64 0) := by (refine (hxws V.heap.size 3 ?_).trans ?_ <;> (first | (simp; done) | (simp [World.drewN]; done) | (simp [go_sem, World.drewN]; done))))); (try (have z4 : ws.cell? ⟨V.heap.size, 4, none⟩ = some (.int .i64 0) := by (refine (hxws V.heap.size 4 ?_).trans ?_ <;> (first | (simp; done) | (simp [World.drewN]; done) | (simp [go_sem, World.drewN]; done))))); (try (have z5 : ws.cell? ⟨V.heap.size, 5, none⟩ = some (.int .i64 0) := by (refine (hxws V.heap.size 5 ?_).trans ?_ <;> (first | (simp; done) | (simp [World.drewN]; done) | (simp [go_sem, World.drewN]; done))))); (try (have z6 : ws.cell? ⟨V.heap.size, 6, none⟩ = some (.int .i64 0) := by (refine (hxws V.heap.size 6 ?_).trans ?_ <;> (first | (simp; done) | (simp [World.drewN]; done) | (simp [go_sem, World.drewN]; done))))); (try (have z7 : ws.cell? ⟨V.heap.size, 7, none⟩ = some (.int .i64 0) := by (refine (hxws V.heap.size 7 ?_).trans ?_ <;> (first | (simp; done) | (simp [World.drewN]; done) | (simp [go_sem, World.drewN]; done))))); (try (have z9 : ∀ o, ws.frozen? ⟨V.heap.size, o, none⟩ = false := by (intro o; refine (hfws V.heap.size o ?_).trans ?_ <;> (first | (simp; done) | (simp [World.drewN]; done) | (simp [go_sem, World.drewN]; done))))); clear zz k0 k1 k2 k3 k4 k5 k6 k7) | (go_at_call 32; (have hH : World.cell? _ ⟨w.heap.size, 0, none⟩ = some (.int .i64 y) ∧ _ := (by assumption)); obtain ⟨k0, k1, k2, k3, k4, k5, k6, k7⟩ := hH; refine (HD _).mono ?_; rintro e wt ⟨rfl, hbt⟩; obtain ⟨hxwt, hfwt⟩ := bcell hbt; have zz := World.block_lt_of_cell? _ _ k0; have hz4 : w.heap.size < wt.heap.size := Nat.lt_of_lt_of_le zz hbt.size; have v0 := (hxwt _ 0 zz).trans k0; have v1 := (hxwt _ 1 zz).trans k1; have v2 := (hxwt _ 2 zz).trans k2; have v3 := (hxwt _ 3 zz).trans k3; have v4 := (hxwt _ 4 zz).trans k4; have v5 := (hxwt _ 5 zz).trans k5; have v6 := (hxwt _ 6 zz).trans k6; have v7 := (hxwt _ 7 zz).trans k7; (try (have hz6 : ws.heap.size < wt.heap.size := by (have q := hbt.size; simp at q; omega))); (try (have y0 : wt.cell? ⟨V.heap.size, 0, none⟩ = some (.int .i64 0) := (hxwt V.heap.size 0 hz5).trans z0)); (try (have y1 : wt.cell? ⟨V.heap.size, 1, none⟩ = some (.int .i64 0) := (hxwt V.heap.size 1 hz5).trans z1)); (try (have y2 : wt.cell? ⟨V.heap.size, 2, none⟩ = some (.int .i64 0) := (hxwt V.heap.size 2 hz5).trans z2)); (try (have y3 : wt.cell? ⟨V.heap.size, 3, none⟩ = some (.int .i64 0) := (hxwt V.heap.size 3 hz5).trans z3)); (try (have y4 : wt.cell? ⟨V.heap.size, 4, none⟩ = some (.int .i64 0) := (hxwt V.heap.size 4 hz5).trans z4)); (try (have y5 : wt.cell? ⟨V.heap.size, 5, none⟩ = some (.int .i64 0) := (hxwt V.heap.size 5 hz5).trans z5)); (try (have y6 : wt.cell? ⟨V.heap.size, 6, none⟩ = some (.int .i64 0) := (hxwt V.heap.size 6 hz5).trans z6)); (try (have y7 : wt.cell? ⟨V.heap.size, 7, none⟩ = some (.int .i64 0) := (hxwt V.heap.size 7 hz5).trans z7)); (try (have x0 : wt.cell? ⟨ws.heap.size, 0, none⟩ = some (.int .i64 0) := by (refine (hxwt ws.heap.size 0 ?_).trans ?_ <;> (simp; done)))); (try (have x1 : wt.cell? ⟨ws.heap.size, 1, none⟩ = some (.int .i64 0) := by (refine (hxwt ws.heap.size 1 ?_).trans ?_ <;> (simp; done)))); (try (have x2 : wt.cell? ⟨ws.heap.size, 2, none⟩ = some (.int .i64 0) := by (refine (hxwt ws.heap.size 2 ?_).trans ?_ <;> (simp; done)))); (try (have x3 : wt.cell? ⟨ws.heap.size, 3, none⟩ = some (.int .i64 0) := by (refine (hxwt ws.heap.size 3 ?_).trans ?_ <;> (simp; done)))); (try (have x4 : wt.cell? ⟨ws.heap.size, 4, none⟩ = some (.int .i64 0) := by (refine (hxwt ws.heap.size 4 ?_).trans ?_ <;> (simp; done)))); (try (have x5 : wt.cell? ⟨ws.heap.size, 5, none⟩ = some (.int .i64 0) := by (refine (hxwt ws.heap.size 5 ?_).trans ?_ <;> (simp; done)))); (try (have x6 : wt.cell? ⟨ws.heap.size, 6, none⟩ = some (.int .i64 0) := by (refine (hxwt ws.heap.size 6 ?_).trans ?_ <;> (simp; done)))); (try (have x7 : wt.cell? ⟨ws.heap.size, 7, none⟩ = some (.int .i64 0) := by (refine (hxwt ws.heap.size 7 ?_).trans ?_ <;> (simp; done)))); (try (have x9 : ∀ o, wt.frozen? ⟨ws.heap.size, o, none⟩ = false := by (intro o; refine (hfwt ws.heap.size o ?_).trans ?_ <;> (simp; done)))); (try (have y9 : ∀ o, wt.frozen? ⟨V.heap.size, o, none⟩ = false := fun o => (hfwt V.heap.size o hz5).trans (z9 o))); clear hxwt hfwt hxws hfws; clear zz k0 k1 k2 k3 k4 k5 k6 k7)))
  all_goals
    go_wp2_with fail
    go_ret
    exact ⟨rfl, by (repeat' (first | (with_reducible exact hB2) | (with_reducible refine Below.setCell ?_ ?_ _) | (with_reducible refine Below.alloc ?_ ?_ _) | (with_reducible refine blw_drewN ?_ _) | (with_reducible refine Below.trans ?_ (hbt.mono ?_)) | (with_reducible refine Below.trans ?_ (hbs.mono ?_)) | omega | (simp; omega)))⟩
set_option maxHeartbeats 1000000 in
theorem Check_bad1 (y mo d h mi s : Int) (hy : -9999 ≤ y) (hy2 : y ≤ 9999) (hm : 1 ≤ mo) (hm2 : mo ≤ 12) (hd : 1 ≤ d) (hd2 : d ≤ Cal.days y mo) (hd3 : d ≤ 31) (h0 : 0 ≤ h) (h1 : h ≤ 23) (m0 : 0 ≤ mi) (m1 : mi ≤ 59) (s0 : 0 ≤ s) (s1 : s ≤ 59) (wd yd : Int) (hw : ((Cal.num y mo d + 4) % 7 == wd) = false) (w : World) :
    Calls Try.prog 24 #[CV y mo d h mi s wd yd] w fun e w' => e = .returned (.int .i64 2) ∧ Below w.heap.size w w' := by
  have e : Cal.days y mo = Cal.dim y mo := if_pos ⟨hy, hy2, hm, hm2⟩
  have tn := Cal.told_num (y := y) (m := mo) (d := d) ⟨hm, hm2, hd, by omega⟩
  have nb := num_in2 (y := y) (m := mo) (d := d) hy hy2 hd (by omega)
  have HD := told_yes (Cal.num y mo d) (h * 3600 + mi * 60 + s) (by omega) (by omega) (by omega) (by omega) (by omega) (by omega)
  have HS := second_any y mo d h mi s wd yd h0 h1 m0 m1 s0 s1
  rw [civ_of ⟨hm, hm2, hd, by omega⟩ m0 m1 s0 s1] at HD
  clear tn e
  unfold CV at HS HD ⊢
  go_enter Try.func24, Try.ntmps24
  go_wp2_with fail
  have q0 : (w.alloc (.cells #[.int .i64 y, .int .i64 mo, .int .i64 d, .int .i64 h, .int .i64 mi, .int .i64 s, .int .i64 wd, .int .i64 yd] 24)).cell? ⟨w.heap.size, 0, none⟩ = some (.int .i64 y) := by simp
  have q1 : (w.alloc (.cells #[.int .i64 y, .int .i64 mo, .int .i64 d, .int .i64 h, .int .i64 mi, .int .i64 s, .int .i64 wd, .int .i64 yd] 24)).cell? ⟨w.heap.size, 1, none⟩ = some (.int .i64 mo) := by simp
  have q2 : (w.alloc (.cells #[.int .i64 y, .int .i64 mo, .int .i64 d, .int .i64 h, .int .i64 mi, .int .i64 s, .int .i64 wd, .int .i64 yd] 24)).cell? ⟨w.heap.size, 2, none⟩ = some (.int .i64 d) := by simp
  have q3 : (w.alloc (.cells #[.int .i64 y, .int .i64 mo, .int .i64 d, .int .i64 h, .int .i64 mi, .int .i64 s, .int .i64 wd, .int .i64 yd] 24)).cell? ⟨w.heap.size, 3, none⟩ = some (.int .i64 h) := by simp
  have q4 : (w.alloc (.cells #[.int .i64 y, .int .i64 mo, .int .i64 d, .int .i64 h, .int .i64 mi, .int .i64 s, .int .i64 wd, .int .i64 yd] 24)).cell? ⟨w.heap.size, 4, none⟩ = some (.int .i64 mi) := by simp
  have q5 : (w.alloc (.cells #[.int .i64 y, .int .i64 mo, .int .i64 d, .int .i64 h, .int .i64 mi, .int .i64 s, .int .i64 wd, .int .i64 yd] 24)).cell? ⟨w.heap.size, 5, none⟩ = some (.int .i64 s) := by simp
  have q6 : (w.alloc (.cells #[.int .i64 y, .int .i64 mo, .int .i64 d, .int .i64 h, .int .i64 mi, .int .i64 s, .int .i64 wd, .int .i64 yd] 24)).cell? ⟨w.heap.size, 6, none⟩ = some (.int .i64 wd) := by simp
  have q7 : (w.alloc (.cells #[.int .i64 y, .int .i64 mo, .int .i64 d, .int .i64 h, .int .i64 mi, .int .i64 s, .int .i64 wd, .int .i64 yd] 24)).cell? ⟨w.heap.size, 7, none⟩ = some (.int .i64 yd) := by simp
  have hB : Below w.heap.size w (w.alloc (.cells #[.int .i64 y, .int .i64 mo, .int .i64 d, .int .i64 h, .int .i64 mi, .int .i64 s, .int .i64 wd, .int .i64 yd] 24)) := (Below.refl _ _).alloc (Nat.le_refl _) _
  have hz : w.heap.size < (w.alloc (.cells #[.int .i64 y, .int .i64 mo, .int .i64 d, .int .i64 h, .int .i64 mi, .int .i64 s, .int .i64 wd, .int .i64 yd] 24)).heap.size := by simp
  generalize w.alloc (.cells #[.int .i64 y, .int .i64 mo, .int .i64 d, .int .i64 h, .int .i64 mi, .int .i64 s, .int .i64 wd, .int .i64 yd] 24) = W at *
  have p0 := fun dr os => cell_regrown q0 dr os
  have p1 := fun dr os => cell_regrown q1 dr os
  have p2 := fun dr os => cell_regrown q2 dr os
  refine wp_region_quiet_below (by kernel_rfl) (by kernel_rfl) ?_
  repeat (quiet_step ((go_at_call 20; exact Calls.regrown_of (dayP _ _ _))))
  refine wpQuiet_nil ?_
  intro _ hw'
  obtain ⟨⟨dq, osq⟩, hw''⟩ := hw'
  subst hw''
  have hB2 := hB.trans ((below_regrown W dq osq).mono hB.size)
  have hz2 : w.heap.size < (Go.Sort.grow (redrawn W dq) osq).heap.size := Nat.lt_of_lt_of_le hz (below_regrown W dq osq).size
  have r0 := cell_regrown q0 dq osq
  have r1 := cell_regrown q1 dq osq
  have r2 := cell_regrown q2 dq osq
  have r3 := cell_regrown q3 dq osq
  have r4 := cell_regrown q4 dq osq
  have r5 := cell_regrown q5 dq osq
  have r6 := cell_regrown q6 dq osq
  have r7 := cell_regrown q7 dq osq
  generalize Go.Sort.grow (redrawn W dq) osq = V at *
  clear p0 p1 p2 q0 q1 q2 q3 q4 q5 q6 q7 hB hz
  go_wp2_with fail
  go_region_held3 (fun w' => w'.cell? ⟨w.heap.size, 0, none⟩ = some (.int .i64 y) ∧ w'.cell? ⟨w.heap.size, 1, none⟩ = some (.int .i64 mo) ∧ w'.cell? ⟨w.heap.size, 2, none⟩ = some (.int .i64 d) ∧ w'.cell? ⟨w.heap.size, 3, none⟩ = some (.int .i64 h) ∧ w'.cell? ⟨w.heap.size, 4, none⟩ = some (.int .i64 mi) ∧ w'.cell? ⟨w.heap.size, 5, none⟩ = some (.int .i64 s) ∧ w'.cell? ⟨w.heap.size, 6, none⟩ = some (.int .i64 wd) ∧ w'.cell? ⟨w.heap.size, 7, none⟩ = some (.int .i64 yd)) (first | (with_reducible exact ⟨v0, v1, v2, v3, v4, v5, v6, v7⟩) | (with_reducible exact ⟨u0, u1, u2, u3, u4, u5, u6, u7⟩) | (refine ⟨?_, ?_, ?_, ?_, ?_, ?_, ?_, ?_⟩ <;> (repeat rw [World.cell?_setCell_far _ _ _ _ (by first | exact Ne.symm (Nat.ne_of_lt hz3) | exact Ne.symm (Nat.ne_of_lt hz2))]) <;> assumption) | go_keep) ((first | (go_at_call 36; refine (number_any y mo d (by omega) (by omega) hm hm2 (by omega) (by omega) _).mono ?_; rintro e w' ⟨rfl, k, rfl⟩) | (go_at_call 41; (have hH : World.cell? _ ⟨w.heap.size, 0, none⟩ = some (.int .i64 y) ∧ _ := (by with_reducible assumption)); obtain ⟨k0, k1, k2, k3, k4, k5, k6, k7⟩ := hH; refine (HS _).mono ?_; rintro e ws ⟨rfl, hbs⟩; obtain ⟨hxws, hfws⟩ := bcell hbs; have zz := World.block_lt_of_cell? _ _ k0; have hz3 : w.heap.size < ws.heap.size := Nat.lt_of_lt_of_le zz hbs.size; have u0 := (hxws _ 0 zz).trans k0; have u1 := (hxws _ 1 zz).trans k1; have u2 := (hxws _ 2 zz).trans k2; have u3 := (hxws _ 3 zz).trans k3; have u4 := (hxws _ 4 zz).trans k4; have u5 := (hxws _ 5 zz).trans k5; have u6 := (hxws _ 6 zz).trans k6; have u7 := (hxws _ 7 zz).trans k7; (try (have hz5 : V.heap.size < ws.heap.size := by (have q := hbs.size; simp at q; omega))); (try (have z0 : ws.cell? ⟨V.heap.size, 0, none⟩ = some (.int .i64 0) := by (refine (hxws V.heap.size 0 ?_).trans ?_ <;> (first | (simp; done) | (simp [World.drewN]; done) | (simp [go_sem, World.drewN]; done))))); (try (have z1 : ws.cell? ⟨V.heap.size, 1, none⟩ = some (.int .i64 0) := by (refine (hxws V.heap.size 1 ?_).trans ?_ <;> (first | (simp; done) | (simp [World.drewN]; done) | (simp [go_sem, World.drewN]; done))))); (try (have z2 : ws.cell? ⟨V.heap.size, 2, none⟩ = some (.int .i64 0) := by (refine (hxws V.heap.size 2 ?_).trans ?_ <;> (first | (simp; done) | (simp [World.drewN]; done) | (simp [go_sem, World.drewN]; done))))); (try (have z3 : ws.cell? ⟨V.heap.size, 3, none⟩ = some (.int .i64 0) := by (refine (hxws V.heap.size 3 ?_).trans ?_ <;> (first | (simp; done) | (simp [World.drewN]; done) | (simp [go_sem, World.drewN]; done))))); (try (have z4 : ws.cell? ⟨V.heap.size, 4, none⟩ = some (.int .i64 0) := by (refine (hxws V.heap.size 4 ?_).trans ?_ <;> (first | (simp; done) | (simp [World.drewN]; done) | (simp [go_sem, World.drewN]; done))))); (try (have z5 : ws.cell? ⟨V.heap.size, 5, none⟩ = some (.int .i64 0) := by (refine (hxws V.heap.size 5 ?_).trans ?_ <;> (first | (simp; done) | (simp [World.drewN]; done) | (simp [go_sem, World.drewN]; done))))); (try (have z6 : ws.cell? ⟨V.heap.size, 6, none⟩ = some (.int .i64 0) := by (refine (hxws V.heap.size 6 ?_).trans ?_ <;> (first | (simp; done) | (simp [World.drewN]; done) | (simp [go_sem, World.drewN]; done))))); (try (have z7 : ws.cell? ⟨V.heap.size, 7, none⟩ = some (.int .i64 0) := by (refine (hxws V.heap.size 7 ?_).trans ?_ <;> (first | (simp; done) | (simp [World.drewN]; done) | (simp [go_sem, World.drewN]; done))))); (try (have z9 : ∀ o, ws.frozen? ⟨V.heap.size, o, none⟩ = false := by (intro o; refine (hfws V.heap.size o ?_).trans ?_ <;> (first | (simp; done) | (simp [World.drewN]; done) | (simp [go_sem, World.drewN]; done))))); clear zz k0 k1 k2 k3 k4 k5 k6 k7) | (go_at_call 32; (have hH : World.cell? _ ⟨w.heap.size, 0, none⟩ = some (.int .i64 y) ∧ _ := (by assumption)); obtain ⟨k0, k1, k2, k3, k4, k5, k6, k7⟩ := hH; refine (HD _).mono ?_; rintro e wt ⟨rfl, hbt⟩; obtain ⟨hxwt, hfwt⟩ := bcell hbt; have zz := World.block_lt_of_cell? _ _ k0; have hz4 : w.heap.size < wt.heap.size := Nat.lt_of_lt_of_le zz hbt.size; have v0 := (hxwt _ 0 zz).trans k0; have v1 := (hxwt _ 1 zz).trans k1; have v2 := (hxwt _ 2 zz).trans k2; have v3 := (hxwt _ 3 zz).trans k3; have v4 := (hxwt _ 4 zz).trans k4; have v5 := (hxwt _ 5 zz).trans k5; have v6 := (hxwt _ 6 zz).trans k6; have v7 := (hxwt _ 7 zz).trans k7; (try (have hz6 : ws.heap.size < wt.heap.size := by (have q := hbt.size; simp at q; omega))); (try (have y0 : wt.cell? ⟨V.heap.size, 0, none⟩ = some (.int .i64 0) := (hxwt V.heap.size 0 hz5).trans z0)); (try (have y1 : wt.cell? ⟨V.heap.size, 1, none⟩ = some (.int .i64 0) := (hxwt V.heap.size 1 hz5).trans z1)); (try (have y2 : wt.cell? ⟨V.heap.size, 2, none⟩ = some (.int .i64 0) := (hxwt V.heap.size 2 hz5).trans z2)); (try (have y3 : wt.cell? ⟨V.heap.size, 3, none⟩ = some (.int .i64 0) := (hxwt V.heap.size 3 hz5).trans z3)); (try (have y4 : wt.cell? ⟨V.heap.size, 4, none⟩ = some (.int .i64 0) := (hxwt V.heap.size 4 hz5).trans z4)); (try (have y5 : wt.cell? ⟨V.heap.size, 5, none⟩ = some (.int .i64 0) := (hxwt V.heap.size 5 hz5).trans z5)); (try (have y6 : wt.cell? ⟨V.heap.size, 6, none⟩ = some (.int .i64 0) := (hxwt V.heap.size 6 hz5).trans z6)); (try (have y7 : wt.cell? ⟨V.heap.size, 7, none⟩ = some (.int .i64 0) := (hxwt V.heap.size 7 hz5).trans z7)); (try (have x0 : wt.cell? ⟨ws.heap.size, 0, none⟩ = some (.int .i64 0) := by (refine (hxwt ws.heap.size 0 ?_).trans ?_ <;> (simp; done)))); (try (have x1 : wt.cell? ⟨ws.heap.size, 1, none⟩ = some (.int .i64 0) := by (refine (hxwt ws.heap.size 1 ?_).trans ?_ <;> (simp; done)))); (try (have x2 : wt.cell? ⟨ws.heap.size, 2, none⟩ = some (.int .i64 0) := by (refine (hxwt ws.heap.size 2 ?_).trans ?_ <;> (simp; done)))); (try (have x3 : wt.cell? ⟨ws.heap.size, 3, none⟩ = some (.int .i64 0) := by (refine (hxwt ws.heap.size 3 ?_).trans ?_ <;> (simp; done)))); (try (have x4 : wt.cell? ⟨ws.heap.size, 4, none⟩ = some (.int .i64 0) := by (refine (hxwt ws.heap.size 4 ?_).trans ?_ <;> (simp; done)))); (try (have x5 : wt.cell? ⟨ws.heap.size, 5, none⟩ = some (.int .i64 0) := by (refine (hxwt ws.heap.size 5 ?_).trans ?_ <;> (simp; done)))); (try (have x6 : wt.cell? ⟨ws.heap.size, 6, none⟩ = some (.int .i64 0) := by (refine (hxwt ws.heap.size 6 ?_).trans ?_ <;> (simp; done)))); (try (have x7 : wt.cell? ⟨ws.heap.size, 7, none⟩ = some (.int .i64 0) := by (refine (hxwt ws.heap.size 7 ?_).trans ?_ <;> (simp; done)))); (try (have x9 : ∀ o, wt.frozen? ⟨ws.heap.size, o, none⟩ = false := by (intro o; refine (hfwt ws.heap.size o ?_).trans ?_ <;> (simp; done)))); (try (have y9 : ∀ o, wt.frozen? ⟨V.heap.size, o, none⟩ = false := fun o => (hfwt V.heap.size o hz5).trans (z9 o))); clear hxwt hfwt hxws hfws; clear zz k0 k1 k2 k3 k4 k5 k6 k7)))
  all_goals
    go_wp2_with fail
    go_ret
    exact ⟨rfl, by (repeat' (first | (with_reducible exact hB2) | (with_reducible refine Below.setCell ?_ ?_ _) | (with_reducible refine Below.alloc ?_ ?_ _) | (with_reducible refine blw_drewN ?_ _) | (with_reducible refine Below.trans ?_ (hbt.mono ?_)) | (with_reducible refine Below.trans ?_ (hbs.mono ?_)) | omega | (simp; omega)))⟩
set_option maxHeartbeats 1000000 in
theorem Check_bad2 (y mo d h mi s : Int) (hy : -9999 ≤ y) (hy2 : y ≤ 9999) (hm : 1 ≤ mo) (hm2 : mo ≤ 12) (hd : 1 ≤ d) (hd2 : d ≤ Cal.days y mo) (hd3 : d ≤ 31) (h0 : 0 ≤ h) (h1 : h ≤ 23) (m0 : 0 ≤ mi) (m1 : mi ≤ 59) (s0 : 0 ≤ s) (s1 : s ≤ 59) (yd : Int) (hw : (Cal.num y mo d - Cal.num y 1 1 + 1 == yd) = false) (w : World) :
    Calls Try.prog 24 #[CV y mo d h mi s ((Cal.num y mo d + 4) % 7) yd] w fun e w' => e = .returned (.int .i64 2) ∧ Below w.heap.size w w' := by
  have e : Cal.days y mo = Cal.dim y mo := if_pos ⟨hy, hy2, hm, hm2⟩
  have tn := Cal.told_num (y := y) (m := mo) (d := d) ⟨hm, hm2, hd, by omega⟩
  have nb := num_in2 (y := y) (m := mo) (d := d) hy hy2 hd (by omega)
  have HD := told_yes (Cal.num y mo d) (h * 3600 + mi * 60 + s) (by omega) (by omega) (by omega) (by omega) (by omega) (by omega)
  have HS := second_any y mo d h mi s ((Cal.num y mo d + 4) % 7) yd h0 h1 m0 m1 s0 s1
  rw [civ_of ⟨hm, hm2, hd, by omega⟩ m0 m1 s0 s1] at HD
  clear tn e
  unfold CV at HS HD ⊢
  go_enter Try.func24, Try.ntmps24
  go_wp2_with fail
  have q0 : (w.alloc (.cells #[.int .i64 y, .int .i64 mo, .int .i64 d, .int .i64 h, .int .i64 mi, .int .i64 s, .int .i64 ((Cal.num y mo d + 4) % 7), .int .i64 yd] 24)).cell? ⟨w.heap.size, 0, none⟩ = some (.int .i64 y) := by simp
  have q1 : (w.alloc (.cells #[.int .i64 y, .int .i64 mo, .int .i64 d, .int .i64 h, .int .i64 mi, .int .i64 s, .int .i64 ((Cal.num y mo d + 4) % 7), .int .i64 yd] 24)).cell? ⟨w.heap.size, 1, none⟩ = some (.int .i64 mo) := by simp
  have q2 : (w.alloc (.cells #[.int .i64 y, .int .i64 mo, .int .i64 d, .int .i64 h, .int .i64 mi, .int .i64 s, .int .i64 ((Cal.num y mo d + 4) % 7), .int .i64 yd] 24)).cell? ⟨w.heap.size, 2, none⟩ = some (.int .i64 d) := by simp
  have q3 : (w.alloc (.cells #[.int .i64 y, .int .i64 mo, .int .i64 d, .int .i64 h, .int .i64 mi, .int .i64 s, .int .i64 ((Cal.num y mo d + 4) % 7), .int .i64 yd] 24)).cell? ⟨w.heap.size, 3, none⟩ = some (.int .i64 h) := by simp
  have q4 : (w.alloc (.cells #[.int .i64 y, .int .i64 mo, .int .i64 d, .int .i64 h, .int .i64 mi, .int .i64 s, .int .i64 ((Cal.num y mo d + 4) % 7), .int .i64 yd] 24)).cell? ⟨w.heap.size, 4, none⟩ = some (.int .i64 mi) := by simp
  have q5 : (w.alloc (.cells #[.int .i64 y, .int .i64 mo, .int .i64 d, .int .i64 h, .int .i64 mi, .int .i64 s, .int .i64 ((Cal.num y mo d + 4) % 7), .int .i64 yd] 24)).cell? ⟨w.heap.size, 5, none⟩ = some (.int .i64 s) := by simp
  have q6 : (w.alloc (.cells #[.int .i64 y, .int .i64 mo, .int .i64 d, .int .i64 h, .int .i64 mi, .int .i64 s, .int .i64 ((Cal.num y mo d + 4) % 7), .int .i64 yd] 24)).cell? ⟨w.heap.size, 6, none⟩ = some (.int .i64 ((Cal.num y mo d + 4) % 7)) := by simp
  have q7 : (w.alloc (.cells #[.int .i64 y, .int .i64 mo, .int .i64 d, .int .i64 h, .int .i64 mi, .int .i64 s, .int .i64 ((Cal.num y mo d + 4) % 7), .int .i64 yd] 24)).cell? ⟨w.heap.size, 7, none⟩ = some (.int .i64 yd) := by simp
  have hB : Below w.heap.size w (w.alloc (.cells #[.int .i64 y, .int .i64 mo, .int .i64 d, .int .i64 h, .int .i64 mi, .int .i64 s, .int .i64 ((Cal.num y mo d + 4) % 7), .int .i64 yd] 24)) := (Below.refl _ _).alloc (Nat.le_refl _) _
  have hz : w.heap.size < (w.alloc (.cells #[.int .i64 y, .int .i64 mo, .int .i64 d, .int .i64 h, .int .i64 mi, .int .i64 s, .int .i64 ((Cal.num y mo d + 4) % 7), .int .i64 yd] 24)).heap.size := by simp
  generalize w.alloc (.cells #[.int .i64 y, .int .i64 mo, .int .i64 d, .int .i64 h, .int .i64 mi, .int .i64 s, .int .i64 ((Cal.num y mo d + 4) % 7), .int .i64 yd] 24) = W at *
  have p0 := fun dr os => cell_regrown q0 dr os
  have p1 := fun dr os => cell_regrown q1 dr os
  have p2 := fun dr os => cell_regrown q2 dr os
  refine wp_region_quiet_below (by kernel_rfl) (by kernel_rfl) ?_
  repeat (quiet_step ((go_at_call 20; exact Calls.regrown_of (dayP _ _ _))))
  refine wpQuiet_nil ?_
  intro _ hw'
  obtain ⟨⟨dq, osq⟩, hw''⟩ := hw'
  subst hw''
  have hB2 := hB.trans ((below_regrown W dq osq).mono hB.size)
  have hz2 : w.heap.size < (Go.Sort.grow (redrawn W dq) osq).heap.size := Nat.lt_of_lt_of_le hz (below_regrown W dq osq).size
  have r0 := cell_regrown q0 dq osq
  have r1 := cell_regrown q1 dq osq
  have r2 := cell_regrown q2 dq osq
  have r3 := cell_regrown q3 dq osq
  have r4 := cell_regrown q4 dq osq
  have r5 := cell_regrown q5 dq osq
  have r6 := cell_regrown q6 dq osq
  have r7 := cell_regrown q7 dq osq
  generalize Go.Sort.grow (redrawn W dq) osq = V at *
  clear p0 p1 p2 q0 q1 q2 q3 q4 q5 q6 q7 hB hz
  go_wp2_with fail
  go_region_held3 (fun w' => w'.cell? ⟨w.heap.size, 0, none⟩ = some (.int .i64 y) ∧ w'.cell? ⟨w.heap.size, 1, none⟩ = some (.int .i64 mo) ∧ w'.cell? ⟨w.heap.size, 2, none⟩ = some (.int .i64 d) ∧ w'.cell? ⟨w.heap.size, 3, none⟩ = some (.int .i64 h) ∧ w'.cell? ⟨w.heap.size, 4, none⟩ = some (.int .i64 mi) ∧ w'.cell? ⟨w.heap.size, 5, none⟩ = some (.int .i64 s) ∧ w'.cell? ⟨w.heap.size, 6, none⟩ = some (.int .i64 ((Cal.num y mo d + 4) % 7)) ∧ w'.cell? ⟨w.heap.size, 7, none⟩ = some (.int .i64 yd)) (first | (with_reducible exact ⟨v0, v1, v2, v3, v4, v5, v6, v7⟩) | (with_reducible exact ⟨u0, u1, u2, u3, u4, u5, u6, u7⟩) | (refine ⟨?_, ?_, ?_, ?_, ?_, ?_, ?_, ?_⟩ <;> (repeat rw [World.cell?_setCell_far _ _ _ _ (by first | exact Ne.symm (Nat.ne_of_lt hz3) | exact Ne.symm (Nat.ne_of_lt hz2))]) <;> assumption) | go_keep) ((first | (go_at_call 36; refine (number_any y mo d (by omega) (by omega) hm hm2 (by omega) (by omega) _).mono ?_; rintro e w' ⟨rfl, k, rfl⟩) | (go_at_call 41; (have hH : World.cell? _ ⟨w.heap.size, 0, none⟩ = some (.int .i64 y) ∧ _ := (by with_reducible assumption)); obtain ⟨k0, k1, k2, k3, k4, k5, k6, k7⟩ := hH; refine (HS _).mono ?_; rintro e ws ⟨rfl, hbs⟩; obtain ⟨hxws, hfws⟩ := bcell hbs; have zz := World.block_lt_of_cell? _ _ k0; have hz3 : w.heap.size < ws.heap.size := Nat.lt_of_lt_of_le zz hbs.size; have u0 := (hxws _ 0 zz).trans k0; have u1 := (hxws _ 1 zz).trans k1; have u2 := (hxws _ 2 zz).trans k2; have u3 := (hxws _ 3 zz).trans k3; have u4 := (hxws _ 4 zz).trans k4; have u5 := (hxws _ 5 zz).trans k5; have u6 := (hxws _ 6 zz).trans k6; have u7 := (hxws _ 7 zz).trans k7; (try (have hz5 : V.heap.size < ws.heap.size := by (have q := hbs.size; simp at q; omega))); (try (have z0 : ws.cell? ⟨V.heap.size, 0, none⟩ = some (.int .i64 0) := by (refine (hxws V.heap.size 0 ?_).trans ?_ <;> (first | (simp; done) | (simp [World.drewN]; done) | (simp [go_sem, World.drewN]; done))))); (try (have z1 : ws.cell? ⟨V.heap.size, 1, none⟩ = some (.int .i64 0) := by (refine (hxws V.heap.size 1 ?_).trans ?_ <;> (first | (simp; done) | (simp [World.drewN]; done) | (simp [go_sem, World.drewN]; done))))); (try (have z2 : ws.cell? ⟨V.heap.size, 2, none⟩ = some (.int .i64 0) := by (refine (hxws V.heap.size 2 ?_).trans ?_ <;> (first | (simp; done) | (simp [World.drewN]; done) | (simp [go_sem, World.drewN]; done))))); (try (have z3 : ws.cell? ⟨V.heap.size, 3, none⟩ = some (.int .i64 0) := by (refine (hxws V.heap.size 3 ?_).trans ?_ <;> (first | (simp; done) | (simp [World.drewN]; done) | (simp [go_sem, World.drewN]; done))))); (try (have z4 : ws.cell? ⟨V.heap.size, 4, none⟩ = some (.int .i64 0) := by (refine (hxws V.heap.size 4 ?_).trans ?_ <;> (first | (simp; done) | (simp [World.drewN]; done) | (simp [go_sem, World.drewN]; done))))); (try (have z5 : ws.cell? ⟨V.heap.size, 5, none⟩ = some (.int .i64 0) := by (refine (hxws V.heap.size 5 ?_).trans ?_ <;> (first | (simp; done) | (simp [World.drewN]; done) | (simp [go_sem, World.drewN]; done))))); (try (have z6 : ws.cell? ⟨V.heap.size, 6, none⟩ = some (.int .i64 0) := by (refine (hxws V.heap.size 6 ?_).trans ?_ <;> (first | (simp; done) | (simp [World.drewN]; done) | (simp [go_sem, World.drewN]; done))))); (try (have z7 : ws.cell? ⟨V.heap.size, 7, none⟩ = some (.int .i64 0) := by (refine (hxws V.heap.size 7 ?_).trans ?_ <;> (first | (simp; done) | (simp [World.drewN]; done) | (simp [go_sem, World.drewN]; done))))); (try (have z9 : ∀ o, ws.frozen? ⟨V.heap.size, o, none⟩ = false := by (intro o; refine (hfws V.heap.size o ?_).trans ?_ <;> (first | (simp; done) | (simp [World.drewN]; done) | (simp [go_sem, World.drewN]; done))))); clear zz k0 k1 k2 k3 k4 k5 k6 k7) | (go_at_call 32; (have hH : World.cell? _ ⟨w.heap.size, 0, none⟩ = some (.int .i64 y) ∧ _ := (by assumption)); obtain ⟨k0, k1, k2, k3, k4, k5, k6, k7⟩ := hH; refine (HD _).mono ?_; rintro e wt ⟨rfl, hbt⟩; obtain ⟨hxwt, hfwt⟩ := bcell hbt; have zz := World.block_lt_of_cell? _ _ k0; have hz4 : w.heap.size < wt.heap.size := Nat.lt_of_lt_of_le zz hbt.size; have v0 := (hxwt _ 0 zz).trans k0; have v1 := (hxwt _ 1 zz).trans k1; have v2 := (hxwt _ 2 zz).trans k2; have v3 := (hxwt _ 3 zz).trans k3; have v4 := (hxwt _ 4 zz).trans k4; have v5 := (hxwt _ 5 zz).trans k5; have v6 := (hxwt _ 6 zz).trans k6; have v7 := (hxwt _ 7 zz).trans k7; (try (have hz6 : ws.heap.size < wt.heap.size := by (have q := hbt.size; simp at q; omega))); (try (have y0 : wt.cell? ⟨V.heap.size, 0, none⟩ = some (.int .i64 0) := (hxwt V.heap.size 0 hz5).trans z0)); (try (have y1 : wt.cell? ⟨V.heap.size, 1, none⟩ = some (.int .i64 0) := (hxwt V.heap.size 1 hz5).trans z1)); (try (have y2 : wt.cell? ⟨V.heap.size, 2, none⟩ = some (.int .i64 0) := (hxwt V.heap.size 2 hz5).trans z2)); (try (have y3 : wt.cell? ⟨V.heap.size, 3, none⟩ = some (.int .i64 0) := (hxwt V.heap.size 3 hz5).trans z3)); (try (have y4 : wt.cell? ⟨V.heap.size, 4, none⟩ = some (.int .i64 0) := (hxwt V.heap.size 4 hz5).trans z4)); (try (have y5 : wt.cell? ⟨V.heap.size, 5, none⟩ = some (.int .i64 0) := (hxwt V.heap.size 5 hz5).trans z5)); (try (have y6 : wt.cell? ⟨V.heap.size, 6, none⟩ = some (.int .i64 0) := (hxwt V.heap.size 6 hz5).trans z6)); (try (have y7 : wt.cell? ⟨V.heap.size, 7, none⟩ = some (.int .i64 0) := (hxwt V.heap.size 7 hz5).trans z7)); (try (have x0 : wt.cell? ⟨ws.heap.size, 0, none⟩ = some (.int .i64 0) := by (refine (hxwt ws.heap.size 0 ?_).trans ?_ <;> (simp; done)))); (try (have x1 : wt.cell? ⟨ws.heap.size, 1, none⟩ = some (.int .i64 0) := by (refine (hxwt ws.heap.size 1 ?_).trans ?_ <;> (simp; done)))); (try (have x2 : wt.cell? ⟨ws.heap.size, 2, none⟩ = some (.int .i64 0) := by (refine (hxwt ws.heap.size 2 ?_).trans ?_ <;> (simp; done)))); (try (have x3 : wt.cell? ⟨ws.heap.size, 3, none⟩ = some (.int .i64 0) := by (refine (hxwt ws.heap.size 3 ?_).trans ?_ <;> (simp; done)))); (try (have x4 : wt.cell? ⟨ws.heap.size, 4, none⟩ = some (.int .i64 0) := by (refine (hxwt ws.heap.size 4 ?_).trans ?_ <;> (simp; done)))); (try (have x5 : wt.cell? ⟨ws.heap.size, 5, none⟩ = some (.int .i64 0) := by (refine (hxwt ws.heap.size 5 ?_).trans ?_ <;> (simp; done)))); (try (have x6 : wt.cell? ⟨ws.heap.size, 6, none⟩ = some (.int .i64 0) := by (refine (hxwt ws.heap.size 6 ?_).trans ?_ <;> (simp; done)))); (try (have x7 : wt.cell? ⟨ws.heap.size, 7, none⟩ = some (.int .i64 0) := by (refine (hxwt ws.heap.size 7 ?_).trans ?_ <;> (simp; done)))); (try (have x9 : ∀ o, wt.frozen? ⟨ws.heap.size, o, none⟩ = false := by (intro o; refine (hfwt ws.heap.size o ?_).trans ?_ <;> (simp; done)))); (try (have y9 : ∀ o, wt.frozen? ⟨V.heap.size, o, none⟩ = false := fun o => (hfwt V.heap.size o hz5).trans (z9 o))); clear hxwt hfwt hxws hfws; clear zz k0 k1 k2 k3 k4 k5 k6 k7)))
  all_goals
    go_wp2_with fail
    go_ret
    exact ⟨rfl, by (repeat' (first | (with_reducible exact hB2) | (with_reducible refine Below.setCell ?_ ?_ _) | (with_reducible refine Below.alloc ?_ ?_ _) | (with_reducible refine blw_drewN ?_ _) | (with_reducible refine Below.trans ?_ (hbt.mono ?_)) | (with_reducible refine Below.trans ?_ (hbs.mono ?_)) | omega | (simp; omega)))⟩
theorem Check_day0 (y mo d h mi s wd yd : Int) (hd : ¬ 1 ≤ d) (w : World) :
    Calls Try.prog 24 #[CV y mo d h mi s wd yd] w fun e w' => e = .returned (.int .i64 2) ∧ Below w.heap.size w w' := by
  have hd1 : decide (d < 1) = true := by simp; omega
  have hd2 : d < 1 := by omega
  unfold CV
  go_enter Try.func24, Try.ntmps24
  go_wp2_with fail
  have q2 : (w.alloc (.cells #[.int .i64 y, .int .i64 mo, .int .i64 d, .int .i64 h, .int .i64 mi, .int .i64 s, .int .i64 wd, .int .i64 yd] 24)).cell? ⟨w.heap.size, 2, none⟩ = some (.int .i64 d) := by simp
  have hB : Below w.heap.size w (w.alloc (.cells #[.int .i64 y, .int .i64 mo, .int .i64 d, .int .i64 h, .int .i64 mi, .int .i64 s, .int .i64 wd, .int .i64 yd] 24)) := (Below.refl _ _).alloc (Nat.le_refl _) _
  have hz : w.heap.size < (w.alloc (.cells #[.int .i64 y, .int .i64 mo, .int .i64 d, .int .i64 h, .int .i64 mi, .int .i64 s, .int .i64 wd, .int .i64 yd] 24)).heap.size := by simp
  generalize w.alloc (.cells #[.int .i64 y, .int .i64 mo, .int .i64 d, .int .i64 h, .int .i64 mi, .int .i64 s, .int .i64 wd, .int .i64 yd] 24) = W at *
  go_quiet (fail)
  go_wp2_with fail
  go_ret
  exact ⟨rfl, blw_drewN hB _⟩
def Rt (y mo d h mi s wd yd : Int) : Prop := 1 ≤ d ∧ d ≤ Cal.days y mo ∧ 0 ≤ h ∧ h ≤ 23 ∧ 0 ≤ mi ∧ mi ≤ 59 ∧ 0 ≤ s ∧ s ≤ 59 ∧ wd = (Cal.num y mo d + 4) % 7 ∧ yd = Cal.num y mo d - Cal.num y 1 1 + 1
theorem days_in {y mo d : Int} (h : 1 ≤ d) (h' : d ≤ Cal.days y mo) : -9999 ≤ y ∧ y ≤ 9999 ∧ 1 ≤ mo ∧ mo ≤ 12 ∧ d ≤ 31 ∧ Cal.valid y mo d := by
  unfold Cal.days at h'
  split at h'
  · have := Cal.dim_pos y mo
    unfold Cal.valid; omega
  · omega
theorem Check_yes (y mo d h mi s wd yd : Int) (hr : Rt y mo d h mi s wd yd) (w : World) :
    Calls Try.prog 24 #[CV y mo d h mi s wd yd] w fun e w' => e = .returned (.int .i64 0) ∧ Below w.heap.size w w' := by
  obtain ⟨h1, h2, h3, h4, h5, h6, h7, h8, rfl, rfl⟩ := hr
  obtain ⟨k1, k2, k3, k4, k5, _⟩ := days_in h1 h2
  exact Check_ok y mo d h mi s k1 k2 k3 k4 h1 h2 k5 h3 h4 h5 h6 h7 h8 w
theorem Check_no (y mo d h mi s wd yd : Int) (hr : ¬ Rt y mo d h mi s wd yd) (w : World) :
    Calls Try.prog 24 #[CV y mo d h mi s wd yd] w fun e w' => e = .returned (.int .i64 2) ∧ Below w.heap.size w w' := by
  by_cases h1 : 1 ≤ d
  · by_cases h2 : d ≤ Cal.days y mo
    · by_cases h3 : 0 ≤ h ∧ h ≤ 23 ∧ 0 ≤ mi ∧ mi ≤ 59 ∧ 0 ≤ s ∧ s ≤ 59
      · obtain ⟨g3, g4, g5, g6, g7, g8⟩ := h3
        obtain ⟨k1, k2, k3, k4, k5, _⟩ := days_in h1 h2
        by_cases h4 : wd = (Cal.num y mo d + 4) % 7
        · have h5 : ¬ yd = Cal.num y mo d - Cal.num y 1 1 + 1 := fun h5 => hr ⟨h1, h2, g3, g4, g5, g6, g7, g8, h4, h5⟩
          subst h4
          exact Check_bad2 y mo d h mi s k1 k2 k3 k4 h1 h2 k5 g3 g4 g5 g6 g7 g8 yd (beq_eq_false_iff_ne.2 (fun e => h5 e.symm)) w
        · exact Check_bad1 y mo d h mi s k1 k2 k3 k4 h1 h2 k5 g3 g4 g5 g6 g7 g8 wd yd (beq_eq_false_iff_ne.2 (fun e => h4 e.symm)) w
      · exact Check_time y mo d h mi s wd yd h1 h2 h3 w
    · exact Check_day y mo d h mi s wd yd h1 h2 w
  · exact Check_day0 y mo d h mi s wd yd h1 w
end Go.Proofs.Ytafoodfbjebdcaa
