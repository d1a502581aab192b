/-
  Contracts of civil.Era, civil.begin, civil.Week and of the reference's begins and Week. Conditions: those that each theorem names.
-/
import Derived.Test.YtafoodfbjebdcaaH
import Derived.Test.YtafoodfbjebdcaaG
import Derived.WalkKit
import Derived.ProofKit
import Derived.OpenShut
import Derived.Deep.QuietTactic
import Derived.BigQuiet
import Derived.Lib.Hide
import Derived.WalkLawsBesides
import Derived.Lib.QuietBelow
namespace Go.Proofs.Ytafoodfbjebdcaa
open Go.ChangeShapes Go.WideShapes Go.ChangeAt Go.RowKit
namespace CivT
def past (y f : Int) : Int := (Cal.num y 1 1 + 4 - f) % 7
/-- the day's number with which a year's first week begins -/
def bw (y f l : Int) : Int := if 7 - past y f < l then Cal.num y 1 1 - past y f + 7 else Cal.num y 1 1 - past y f
theorem past_in (y f : Int) : 0 ≤ past y f ∧ past y f < 7 := by unfold past; omega
theorem bw_in (y f l : Int) (hl : l ≤ 7) : Cal.num y 1 1 - 6 ≤ bw y f l ∧ bw y f l ≤ Cal.num y 1 1 + 6 := by
  have := past_in y f; unfold bw; split <;> omega
end CivT
theorem begin_any (y f l : Int) (hy : -10001 ≤ y) (hy2 : y ≤ 10001) (hf : 0 ≤ f) (hf2 : f ≤ 6) (hl : 1 ≤ l) (hl2 : l ≤ 7) (w : World) :
    Calls Try.prog 42 #[.int .i64 y, .int .i64 f, .int .i64 l] w fun e w' => e = .returned (.int .i64 (CivT.bw y f l)) ∧ ∃ k, w' = w.drewN k := by
  have n1 : -5000000 ≤ Cal.num y 1 1 := by rw [CivT.num_one]; unfold Cal.fst; omega
  have n2 : Cal.num y 1 1 ≤ 5000000 := by rw [CivT.num_one]; unfold Cal.fst; omega
  obtain ⟨q1, q2⟩ := CivT.past_in y f
  have HP : Hid ((Cal.num y 1 1 + 4 - f) % 7 = CivT.past y f) := Lib.hid rfl
  by_cases h : 7 - CivT.past y f < l
  · have E := Lib.hid (show CivT.bw y f l = _ from if_pos h)
    have S : ∀ w : World, Calls Try.prog 31 #[.int .i64 (Cal.num y 1 1 + 4 - f), .int .i64 7] w fun e w' => e = .returned (.tuple #[.int .i64 ((Cal.num y 1 1 + 4 - f) / 7), .int .i64 (CivT.past y f)]) ∧ ∃ k, w' = w.drewN k := fun w => split_any _ _ (by omega) (by omega) (by omega) (by omega) w
    go_enter Try.func42, Try.ntmps42
    go_wp2_with fail
    refine (number_any y 1 1 (by omega) (by omega) (by omega) (by omega) (by omega) (by omega) _).mono ?_
    rintro e w' ⟨rfl, k, rfl⟩
    go_wp2_with fail
    refine (S _).mono ?_
    rintro e w' ⟨rfl, k2, rfl⟩
    go_wp2_with fail
    go_ret
    exact ⟨ret_int (by rw [E.out]), _, rfl⟩
  · have E := Lib.hid (show CivT.bw y f l = _ from if_neg h)
    have S : ∀ w : World, Calls Try.prog 31 #[.int .i64 (Cal.num y 1 1 + 4 - f), .int .i64 7] w fun e w' => e = .returned (.tuple #[.int .i64 ((Cal.num y 1 1 + 4 - f) / 7), .int .i64 (CivT.past y f)]) ∧ ∃ k, w' = w.drewN k := fun w => split_any _ _ (by omega) (by omega) (by omega) (by omega) w
    go_enter Try.func42, Try.ntmps42
    go_wp2_with fail
    refine (number_any y 1 1 (by omega) (by omega) (by omega) (by omega) (by omega) (by omega) _).mono ?_
    rintro e w' ⟨rfl, k, rfl⟩
    go_wp2_with fail
    refine (S _).mono ?_
    rintro e w' ⟨rfl, k2, rfl⟩
    go_wp2_with fail
    go_ret
    exact ⟨ret_int (by rw [E.out]), _, rfl⟩
theorem begins_any (y f l : Int) (hy : -10001 ≤ y) (hy2 : y ≤ 10001) (hf : 0 ≤ f) (hf2 : f ≤ 6) (hl : 1 ≤ l) (hl2 : l ≤ 7) (w : World) :
    Calls Try.prog 43 #[.int .i64 y, .int .i64 f, .int .i64 l] w fun e w' => e = .returned (.int .i64 (CivT.bw y f l)) ∧ w = w' := by
  have n1 : -5000000 ≤ Cal.fst y := by unfold Cal.fst; omega
  have n2 : Cal.fst y ≤ 5000000 := by unfold Cal.fst; omega
  obtain ⟨q1, q2⟩ := CivT.past_in y f
  obtain ⟨w1, w2, w3⟩ := CivT.wk (Cal.fst y - 719528 + 4 - f)
  have HP := Lib.hid (show ((Cal.fst y - 719528 + 4 - f).tmod 7 + 7) % 7 = CivT.past y f by rw [w1]; unfold CivT.past; rw [CivT.num_one])
  have N := Lib.hid (CivT.num_one y)
  clear w1
  by_cases h : 7 - CivT.past y f < l
  · have E := Lib.hid (show CivT.bw y f l = _ from if_pos h)
    have h' : 7 - (Cal.fst y - 719528 + 4 - f).tmod 7 % 7 < l := by have := HP.out; omega
    go_enter Try.func43, Try.ntmps43
    go_wp2_with (first | (go_at_call 33; refine (first_any _ (by omega) (by omega) _).mono ?_; rintro e w' ⟨rfl, rfl⟩) | (go_at_call 34; refine (epoch_any _).mono ?_; rintro e w' ⟨rfl, rfl⟩))
    go_ret
    exact ⟨ret_int (by rw [E.out, ← HP.out, N.out]; omega), rfl⟩
  · have E := Lib.hid (show CivT.bw y f l = _ from if_neg h)
    have h' : ¬ 7 - (Cal.fst y - 719528 + 4 - f).tmod 7 % 7 < l := by have := HP.out; omega
    go_enter Try.func43, Try.ntmps43
    go_wp2_with (first | (go_at_call 33; refine (first_any _ (by omega) (by omega) _).mono ?_; rintro e w' ⟨rfl, rfl⟩) | (go_at_call 34; refine (epoch_any _).mono ?_; rintro e w' ⟨rfl, rfl⟩))
    go_ret
    exact ⟨ret_int (by rw [E.out, ← HP.out, N.out]; omega), rfl⟩
namespace CivT
/-- the year of whose weeks the day n of the year Y is one -/
def wkY (Y n f l : Int) : Int := if bw (Y + 1) f l ≤ n then Y + 1 else if bw Y f l ≤ n then Y else Y - 1
def wkW (Y n f l : Int) : Int := (n - bw (wkY Y n f l) f l) / 7 + 1
theorem wkY_in (Y n f l : Int) : Y - 1 ≤ wkY Y n f l ∧ wkY Y n f l ≤ Y + 1 := by unfold wkY; split <;> (try split) <;> omega
theorem wkY_step {Y n f l y : Int} (h1 : wkY Y n f l ≤ y) (h2 : y ≤ Y + 1) (h : ¬ bw y f l ≤ n) (h0 : bw (Y - 1) f l ≤ n) : wkY Y n f l ≤ y - 1 := by
  have := wkY_in Y n f l
  rcases (by omega : y = Y + 1 ∨ y = Y ∨ y = Y - 1) with e | e | e
  · subst e; unfold wkY; rw [if_neg h]; split <;> omega
  · subst e; unfold wkY at h1 ⊢; rw [if_neg h] at h1 ⊢; split at h1
    · omega
    · split <;> omega
  · subst e; exact absurd h0 h
theorem wkY_stop {Y n f l y : Int} (h1 : wkY Y n f l ≤ y) (h2 : y ≤ Y + 1) (h : bw y f l ≤ n) : y = wkY Y n f l := by
  have := wkY_in Y n f l
  rcases (by omega : y = Y + 1 ∨ y = Y ∨ y = Y - 1) with e | e | e
  · subst e; unfold wkY; rw [if_pos h]
  · subst e; unfold wkY at h1 ⊢; split at h1
    · omega
    · rw [if_neg (by assumption), if_pos h]
  · subst e; omega
end CivT
theorem wk_low {y mo d f l : Int} (k6 : Cal.valid y mo d) (l7 : l ≤ 7) : CivT.bw (y - 1) f l ≤ Cal.num y mo d := by
  have a := (CivT.bw_in (y - 1) f l l7).2
  rw [CivT.num_one] at a
  have b := (Cal.num_in k6).1
  have c := Cal.fst_succ (y - 1)
  rw [show y - 1 + 1 = y by omega] at c
  split at c <;> omega
theorem Era_no (y mo d h mi s wd yd : Int) (hy : ¬ (-9999 ≤ y ∧ y ≤ 9999)) (w : World) :
    Calls Try.prog 27 #[CV y mo d h mi s wd yd] w fun e w' => e = .returned (.tuple #[.int .i64 0, .int .i64 0]) ∧ Below w.heap.size w w' := by
  have HY := Lib.hid hy
  clear hy
  unfold CV
  go_enter Try.func27, Try.ntmps27
  have L0 : Below w.heap.size w w := Below.refl _ _
  go_wp2_with fail
  have L1 : Below w.heap.size w (w.alloc (.cells #[.int .i64 y, .int .i64 mo, .int .i64 d, .int .i64 h, .int .i64 mi, .int .i64 s, .int .i64 wd, .int .i64 yd] 24)) := L0.alloc L0.size _
  have bp_1 := Blk8.new w (.int .i64 y) (.int .i64 mo) (.int .i64 d) (.int .i64 h) (.int .i64 mi) (.int .i64 s) (.int .i64 wd) (.int .i64 yd) 24
  clear L0
  refine (isYear_no y HY.out _).mono ?_
  rintro e w' ⟨rfl, rfl⟩
  obtain ⟨bplt, bpc0, bpc1, bpc2, bpc3, bpc4, bpc5, bpc6, bpc7, bpfz⟩ := bp_1
  go_wp2_with fail
  have bp_1 : Blk8 _ _ _ _ _ _ _ _ _ _ := ⟨bplt, bpc0, bpc1, bpc2, bpc3, bpc4, bpc5, bpc6, bpc7, bpfz⟩
  clear bplt bpc0 bpc1 bpc2 bpc3 bpc4 bpc5 bpc6 bpc7 bpfz
  go_ret2
  exact ⟨rfl, L1⟩
theorem Era_one (y mo d h mi s wd yd : Int) (hy : -9999 ≤ y) (hy2 : y ≤ 9999) (hp : 0 < y) (w : World) :
    Calls Try.prog 27 #[CV y mo d h mi s wd yd] w fun e w' => e = .returned (.tuple #[.int .i64 1, .int .i64 y]) ∧ Below w.heap.size w w' := by
  unfold CV
  go_enter Try.func27, Try.ntmps27
  have L0 : Below w.heap.size w w := Below.refl _ _
  go_wp2_with fail
  have L1 : Below w.heap.size w (w.alloc (.cells #[.int .i64 y, .int .i64 mo, .int .i64 d, .int .i64 h, .int .i64 mi, .int .i64 s, .int .i64 wd, .int .i64 yd] 24)) := L0.alloc L0.size _
  have bp_1 := Blk8.new w (.int .i64 y) (.int .i64 mo) (.int .i64 d) (.int .i64 h) (.int .i64 mi) (.int .i64 s) (.int .i64 wd) (.int .i64 yd) 24
  clear L0
  refine (isYear_yes y hy hy2 _).mono ?_
  rintro e w' ⟨rfl, rfl⟩
  obtain ⟨bplt, bpc0, bpc1, bpc2, bpc3, bpc4, bpc5, bpc6, bpc7, bpfz⟩ := bp_1
  go_wp2_with fail
  have bp_1 : Blk8 _ _ _ _ _ _ _ _ _ _ := ⟨bplt, bpc0, bpc1, bpc2, bpc3, bpc4, bpc5, bpc6, bpc7, bpfz⟩
  clear bplt bpc0 bpc1 bpc2 bpc3 bpc4 bpc5 bpc6 bpc7 bpfz
  have qe := bp_1.a0
  go_quiet (fail)
  go_wp2_with fail
  go_ret2
  exact ⟨rfl, blw_drewN L1 _⟩
theorem Era_zero (y mo d h mi s wd yd : Int) (hy : -9999 ≤ y) (hy2 : y ≤ 9999) (hp : ¬ 0 < y) (w : World) :
    Calls Try.prog 27 #[CV y mo d h mi s wd yd] w fun e w' => e = .returned (.tuple #[.int .i64 0, .int .i64 (1 - y)]) ∧ Below w.heap.size w w' := by
  unfold CV
  go_enter Try.func27, Try.ntmps27
  have L0 : Below w.heap.size w w := Below.refl _ _
  go_wp2_with fail
  have L1 : Below w.heap.size w (w.alloc (.cells #[.int .i64 y, .int .i64 mo, .int .i64 d, .int .i64 h, .int .i64 mi, .int .i64 s, .int .i64 wd, .int .i64 yd] 24)) := L0.alloc L0.size _
  have bp_1 := Blk8.new w (.int .i64 y) (.int .i64 mo) (.int .i64 d) (.int .i64 h) (.int .i64 mi) (.int .i64 s) (.int .i64 wd) (.int .i64 yd) 24
  clear L0
  refine (isYear_yes y hy hy2 _).mono ?_
  rintro e w' ⟨rfl, rfl⟩
  obtain ⟨bplt, bpc0, bpc1, bpc2, bpc3, bpc4, bpc5, bpc6, bpc7, bpfz⟩ := bp_1
  go_wp2_with fail
  have bp_1 : Blk8 _ _ _ _ _ _ _ _ _ _ := ⟨bplt, bpc0, bpc1, bpc2, bpc3, bpc4, bpc5, bpc6, bpc7, bpfz⟩
  clear bplt bpc0 bpc1 bpc2 bpc3 bpc4 bpc5 bpc6 bpc7 bpfz
  have qe := bp_1.a0
  go_quiet (fail)
  go_wp2_with fail
  go_ret2
  exact ⟨rfl, blw_drewN L1 _⟩
theorem Week_bad (y mo d h mi s wd yd f l : Int) (hr : ¬ Rt y mo d h mi s wd yd) (w : World) :
    Calls Try.prog 28 #[CV y mo d h mi s wd yd, .int .i64 f, .int .i64 l] w fun e w' => e = .returned (.tuple #[.int .i64 0, .int .i64 0, .int .i64 2]) ∧ Below w.heap.size w w' := by
  have HK := Check_no y mo d h mi s wd yd hr
  clear hr
  unfold CV at *
  go_enter Try.func28, Try.ntmps28
  have L0 : Below w.heap.size w w := Below.refl _ _
  go_wp2_with fail
  go_step3
  go_wp2_with fail
  have L1 : Below w.heap.size w (w.alloc (.cells #[.int .i64 y, .int .i64 mo, .int .i64 d, .int .i64 h, .int .i64 mi, .int .i64 s, .int .i64 wd, .int .i64 yd] 24)) := L0.alloc L0.size _
  have bp_1 := Blk8.new w (.int .i64 y) (.int .i64 mo) (.int .i64 d) (.int .i64 h) (.int .i64 mi) (.int .i64 s) (.int .i64 wd) (.int .i64 yd) 24
  clear L0
  refine (HK _).mono ?_
  rintro e w2 ⟨rfl, hb⟩
  have L2 := L1.trans (hb.mono L1.size)
  have bp_2 := bp_1.below hb
  clear bp_1
  clear hb
  clear L1
  obtain ⟨bplt, bpc0, bpc1, bpc2, bpc3, bpc4, bpc5, bpc6, bpc7, bpfz⟩ := bp_2
  go_wp2_with fail
  have bp_2 : Blk8 _ _ _ _ _ _ _ _ _ _ := ⟨bplt, bpc0, bpc1, bpc2, bpc3, bpc4, bpc5, bpc6, bpc7, bpfz⟩
  clear bplt bpc0 bpc1 bpc2 bpc3 bpc4 bpc5 bpc6 bpc7 bpfz
  try rw [Exit.noGoto_ret]
  go_ret3
  exact ⟨rfl, L2⟩
theorem Week_f1 (y mo d h mi s wd yd f l : Int) (hr : Rt y mo d h mi s wd yd) (t0 : f < 0) (w : World) :
    Calls Try.prog 28 #[CV y mo d h mi s wd yd, .int .i64 f, .int .i64 l] w fun e w' => e = .returned (.tuple #[.int .i64 0, .int .i64 0, .int .i64 2]) ∧ Below w.heap.size w w' := by
  have HK := Check_yes y mo d h mi s wd yd hr
  clear hr
  unfold CV at *
  go_enter Try.func28, Try.ntmps28
  have L0 : Below w.heap.size w w := Below.refl _ _
  go_wp2_with fail
  go_step3
  go_wp2_with fail
  have L1 : Below w.heap.size w (w.alloc (.cells #[.int .i64 y, .int .i64 mo, .int .i64 d, .int .i64 h, .int .i64 mi, .int .i64 s, .int .i64 wd, .int .i64 yd] 24)) := L0.alloc L0.size _
  have bp_1 := Blk8.new w (.int .i64 y) (.int .i64 mo) (.int .i64 d) (.int .i64 h) (.int .i64 mi) (.int .i64 s) (.int .i64 wd) (.int .i64 yd) 24
  clear L0
  refine (HK _).mono ?_
  rintro e w2 ⟨rfl, hb⟩
  have L2 := L1.trans (hb.mono L1.size)
  have bp_2 := bp_1.below hb
  clear bp_1
  clear hb
  clear L1
  obtain ⟨bplt, bpc0, bpc1, bpc2, bpc3, bpc4, bpc5, bpc6, bpc7, bpfz⟩ := bp_2
  go_wp2_with fail
  have bp_2 : Blk8 _ _ _ _ _ _ _ _ _ _ := ⟨bplt, bpc0, bpc1, bpc2, bpc3, bpc4, bpc5, bpc6, bpc7, bpfz⟩
  clear bplt bpc0 bpc1 bpc2 bpc3 bpc4 bpc5 bpc6 bpc7 bpfz
  try rw [Exit.noGoto_ret]
  go_ret3
  exact ⟨rfl, L2⟩
theorem Week_f2 (y mo d h mi s wd yd f l : Int) (hr : Rt y mo d h mi s wd yd) (t0 : ¬ f < 0) (t1 : 6 < f) (w : World) :
    Calls Try.prog 28 #[CV y mo d h mi s wd yd, .int .i64 f, .int .i64 l] w fun e w' => e = .returned (.tuple #[.int .i64 0, .int .i64 0, .int .i64 2]) ∧ Below w.heap.size w w' := by
  have HK := Check_yes y mo d h mi s wd yd hr
  clear hr
  unfold CV at *
  go_enter Try.func28, Try.ntmps28
  have L0 : Below w.heap.size w w := Below.refl _ _
  go_wp2_with fail
  go_step3
  go_wp2_with fail
  have L1 : Below w.heap.size w (w.alloc (.cells #[.int .i64 y, .int .i64 mo, .int .i64 d, .int .i64 h, .int .i64 mi, .int .i64 s, .int .i64 wd, .int .i64 yd] 24)) := L0.alloc L0.size _
  have bp_1 := Blk8.new w (.int .i64 y) (.int .i64 mo) (.int .i64 d) (.int .i64 h) (.int .i64 mi) (.int .i64 s) (.int .i64 wd) (.int .i64 yd) 24
  clear L0
  refine (HK _).mono ?_
  rintro e w2 ⟨rfl, hb⟩
  have L2 := L1.trans (hb.mono L1.size)
  have bp_2 := bp_1.below hb
  clear bp_1
  clear hb
  clear L1
  obtain ⟨bplt, bpc0, bpc1, bpc2, bpc3, bpc4, bpc5, bpc6, bpc7, bpfz⟩ := bp_2
  go_wp2_with fail
  have bp_2 : Blk8 _ _ _ _ _ _ _ _ _ _ := ⟨bplt, bpc0, bpc1, bpc2, bpc3, bpc4, bpc5, bpc6, bpc7, bpfz⟩
  clear bplt bpc0 bpc1 bpc2 bpc3 bpc4 bpc5 bpc6 bpc7 bpfz
  try rw [Exit.noGoto_ret]
  go_ret3
  exact ⟨rfl, L2⟩
theorem Week_l1 (y mo d h mi s wd yd f l : Int) (hr : Rt y mo d h mi s wd yd) (t0 : ¬ f < 0) (t1 : ¬ 6 < f) (t2 : l < 1) (w : World) :
    Calls Try.prog 28 #[CV y mo d h mi s wd yd, .int .i64 f, .int .i64 l] w fun e w' => e = .returned (.tuple #[.int .i64 0, .int .i64 0, .int .i64 2]) ∧ Below w.heap.size w w' := by
  have HK := Check_yes y mo d h mi s wd yd hr
  clear hr
  unfold CV at *
  go_enter Try.func28, Try.ntmps28
  have L0 : Below w.heap.size w w := Below.refl _ _
  go_wp2_with fail
  go_step3
  go_wp2_with fail
  have L1 : Below w.heap.size w (w.alloc (.cells #[.int .i64 y, .int .i64 mo, .int .i64 d, .int .i64 h, .int .i64 mi, .int .i64 s, .int .i64 wd, .int .i64 yd] 24)) := L0.alloc L0.size _
  have bp_1 := Blk8.new w (.int .i64 y) (.int .i64 mo) (.int .i64 d) (.int .i64 h) (.int .i64 mi) (.int .i64 s) (.int .i64 wd) (.int .i64 yd) 24
  clear L0
  refine (HK _).mono ?_
  rintro e w2 ⟨rfl, hb⟩
  have L2 := L1.trans (hb.mono L1.size)
  have bp_2 := bp_1.below hb
  clear bp_1
  clear hb
  clear L1
  obtain ⟨bplt, bpc0, bpc1, bpc2, bpc3, bpc4, bpc5, bpc6, bpc7, bpfz⟩ := bp_2
  go_wp2_with fail
  have bp_2 : Blk8 _ _ _ _ _ _ _ _ _ _ := ⟨bplt, bpc0, bpc1, bpc2, bpc3, bpc4, bpc5, bpc6, bpc7, bpfz⟩
  clear bplt bpc0 bpc1 bpc2 bpc3 bpc4 bpc5 bpc6 bpc7 bpfz
  try rw [Exit.noGoto_ret]
  go_ret3
  exact ⟨rfl, L2⟩
theorem Week_l2 (y mo d h mi s wd yd f l : Int) (hr : Rt y mo d h mi s wd yd) (t0 : ¬ f < 0) (t1 : ¬ 6 < f) (t2 : ¬ l < 1) (t3 : 7 < l) (w : World) :
    Calls Try.prog 28 #[CV y mo d h mi s wd yd, .int .i64 f, .int .i64 l] w fun e w' => e = .returned (.tuple #[.int .i64 0, .int .i64 0, .int .i64 2]) ∧ Below w.heap.size w w' := by
  have HK := Check_yes y mo d h mi s wd yd hr
  clear hr
  unfold CV at *
  go_enter Try.func28, Try.ntmps28
  have L0 : Below w.heap.size w w := Below.refl _ _
  go_wp2_with fail
  go_step3
  go_wp2_with fail
  have L1 : Below w.heap.size w (w.alloc (.cells #[.int .i64 y, .int .i64 mo, .int .i64 d, .int .i64 h, .int .i64 mi, .int .i64 s, .int .i64 wd, .int .i64 yd] 24)) := L0.alloc L0.size _
  have bp_1 := Blk8.new w (.int .i64 y) (.int .i64 mo) (.int .i64 d) (.int .i64 h) (.int .i64 mi) (.int .i64 s) (.int .i64 wd) (.int .i64 yd) 24
  clear L0
  refine (HK _).mono ?_
  rintro e w2 ⟨rfl, hb⟩
  have L2 := L1.trans (hb.mono L1.size)
  have bp_2 := bp_1.below hb
  clear bp_1
  clear hb
  clear L1
  obtain ⟨bplt, bpc0, bpc1, bpc2, bpc3, bpc4, bpc5, bpc6, bpc7, bpfz⟩ := bp_2
  go_wp2_with fail
  have bp_2 : Blk8 _ _ _ _ _ _ _ _ _ _ := ⟨bplt, bpc0, bpc1, bpc2, bpc3, bpc4, bpc5, bpc6, bpc7, bpfz⟩
  clear bplt bpc0 bpc1 bpc2 bpc3 bpc4 bpc5 bpc6 bpc7 bpfz
  try rw [Exit.noGoto_ret]
  go_ret3
  exact ⟨rfl, L2⟩
theorem Week_no (y mo d h mi s wd yd f l : Int) (hr : ¬ (Rt y mo d h mi s wd yd ∧ 0 ≤ f ∧ f ≤ 6 ∧ 1 ≤ l ∧ l ≤ 7)) (w : World) :
    Calls Try.prog 28 #[CV y mo d h mi s wd yd, .int .i64 f, .int .i64 l] w fun e w' => e = .returned (.tuple #[.int .i64 0, .int .i64 0, .int .i64 2]) ∧ Below w.heap.size w w' := by
  by_cases h1 : Rt y mo d h mi s wd yd
  · by_cases t0 : f < 0
    · exact Week_f1 y mo d h mi s wd yd f l h1 t0 w
    · by_cases t1 : 6 < f
      · exact Week_f2 y mo d h mi s wd yd f l h1 t0 t1 w
      · by_cases t2 : l < 1
        · exact Week_l1 y mo d h mi s wd yd f l h1 t0 t1 t2 w
        · exact Week_l2 y mo d h mi s wd yd f l h1 t0 t1 t2 (by apply Int.lt_of_not_ge; intro t3; exact hr ⟨h1, by omega, by omega, by omega, by omega⟩) w
  · exact Week_bad y mo d h mi s wd yd f l h1 w
set_option maxHeartbeats 1000000 in
theorem Week_yes (y mo d h mi s wd yd f l : Int) (hr : Rt y mo d h mi s wd yd) (f0 : 0 ≤ f) (f6 : f ≤ 6) (l1 : 1 ≤ l) (l7 : l ≤ 7) (w : World) :
    Calls Try.prog 28 #[CV y mo d h mi s wd yd, .int .i64 f, .int .i64 l] w fun e w' => e = .returned (.tuple #[.int .i64 (CivT.wkY y (Cal.num y mo d) f l), .int .i64 (CivT.wkW y (Cal.num y mo d) f l), .int .i64 0]) ∧ Below w.heap.size w w' := by
  have HK := Check_yes y mo d h mi s wd yd hr
  obtain ⟨h1, h2, h3, h4, h5, h6, h7, h8, g9, g10⟩ := hr
  clear g9 g10
  obtain ⟨k1, k2, k3, k4, k5, k6⟩ := days_in h1 h2
  obtain ⟨n1, n2⟩ := num_in2 (m := mo) k1 k2 h1 k5
  have HN := fun w => (number_any y mo d (by omega) (by omega) k3 k4 (by omega) (by omega) w).mono fun e w' (h : e = .returned (.int .i64 (Cal.num y mo d)) ∧ ∃ k, w' = w.drewN k) => (⟨h.1, by obtain ⟨_, k, h'⟩ := h; subst h'; exact blw_drewN (Below.refl _ _) k⟩ : e = .returned (.int .i64 (Cal.num y mo d)) ∧ Below w.heap.size w w')
  have H0 : CivT.bw (y - 1) f l ≤ Cal.num y mo d := wk_low k6 l7
  obtain ⟨z1, z2⟩ := CivT.wkY_in y (Cal.num y mo d) f l
  have HW := Lib.hid (show CivT.wkW y (Cal.num y mo d) f l = (Cal.num y mo d - CivT.bw (CivT.wkY y (Cal.num y mo d) f l) f l) / 7 + 1 from rfl)
  clear k6
  unfold CV at *
  generalize Cal.num y mo d = N at *
  go_enter Try.func28, Try.ntmps28
  have L0 : Below w.heap.size w w := Below.refl _ _
  go_wp2_with fail
  go_step3
  go_wp2_with fail
  have L1 : Below w.heap.size w (w.alloc (.cells #[.int .i64 y, .int .i64 mo, .int .i64 d, .int .i64 h, .int .i64 mi, .int .i64 s, .int .i64 wd, .int .i64 yd] 24)) := L0.alloc L0.size _
  have bp_1 := Blk8.new w (.int .i64 y) (.int .i64 mo) (.int .i64 d) (.int .i64 h) (.int .i64 mi) (.int .i64 s) (.int .i64 wd) (.int .i64 yd) 24
  clear L0
  refine (HK _).mono ?_
  rintro e w2 ⟨rfl, hb⟩
  have L2 := L1.trans (hb.mono L1.size)
  have bp_2 := bp_1.below hb
  clear bp_1
  clear hb
  clear L1
  obtain ⟨bplt, bpc0, bpc1, bpc2, bpc3, bpc4, bpc5, bpc6, bpc7, bpfz⟩ := bp_2
  go_wp2_with fail
  have bp_2 : Blk8 _ _ _ _ _ _ _ _ _ _ := ⟨bplt, bpc0, bpc1, bpc2, bpc3, bpc4, bpc5, bpc6, bpc7, bpfz⟩
  clear bplt bpc0 bpc1 bpc2 bpc3 bpc4 bpc5 bpc6 bpc7 bpfz
  refine (HN _).mono ?_
  rintro e w3 ⟨rfl, hb⟩
  have L3 := L2.trans (hb.mono L2.size)
  have bp_3 := bp_2.below hb
  clear bp_2
  clear hb
  clear L2
  obtain ⟨bplt, bpc0, bpc1, bpc2, bpc3, bpc4, bpc5, bpc6, bpc7, bpfz⟩ := bp_3
  go_wp2_with fail
  have bp_3 : Blk8 _ _ _ _ _ _ _ _ _ _ := ⟨bplt, bpc0, bpc1, bpc2, bpc3, bpc4, bpc5, bpc6, bpc7, bpfz⟩
  clear bplt bpc0 bpc1 bpc2 bpc3 bpc4 bpc5 bpc6 bpc7 bpfz
  go_step3
  obtain ⟨bplt, bpc0, bpc1, bpc2, bpc3, bpc4, bpc5, bpc6, bpc7, bpfz⟩ := bp_3
  go_wp2_with fail
  have bp_3 : Blk8 _ _ _ _ _ _ _ _ _ _ := ⟨bplt, bpc0, bpc1, bpc2, bpc3, bpc4, bpc5, bpc6, bpc7, bpfz⟩
  clear bplt bpc0 bpc1 bpc2 bpc3 bpc4 bpc5 bpc6 bpc7 bpfz
  go_loopw [11] (fun v wr => ∃ j : Int, CivT.wkY y N f l ≤ j ∧ j ≤ y + 1 ∧ v = .int .i64 j ∧ Below w.heap.size w wr) (fun v _ => (intOf v - (y - 3)).toNat)
  case atStart => exact ⟨y + 1, z2, by omega, rfl, L3⟩
  case round =>
    obtain ⟨j, j1, j2, rfl, LR⟩ := hrel
    have HB := begin_any j f l (by omega) (by omega) f0 f6 l1 l7
    obtain ⟨g1, g2⟩ := CivT.bw_in j f l l7
    have m1 : -5000000 ≤ Cal.num j 1 1 := by rw [CivT.num_one]; unfold Cal.fst; omega
    have m2 : Cal.num j 1 1 ≤ 5000000 := by rw [CivT.num_one]; unfold Cal.fst; omega
    by_cases hc : CivT.bw j f l ≤ N
    · obtain rfl := CivT.wkY_stop j1 j2 hc
      go_wp2_with fail
      refine (HB _).mono ?_
      rintro e w' ⟨rfl, kk, rfl⟩
      go_wp2_with fail
      try rw [Exit.noGoto_ret]
      go_ret3
      exact ⟨by rw [HW.out]; rfl, blw_drewN LR _⟩
    · have hs := CivT.wkY_step j1 j2 hc H0
      go_wp2_with fail
      refine (HB _).mono ?_
      rintro e w' ⟨rfl, kk, rfl⟩
      go_wp2_with fail
      go_roundw
      case rel => exact ⟨j - 1, hs, by omega, rfl, blw_drewN LR _⟩
      case measure => simp [intOf]; omega
set_option maxHeartbeats 1000000 in
theorem refWeek (y mo d h mi s wd yd f l : Int) (hr : Rt y mo d h mi s wd yd) (f0 : 0 ≤ f) (f6 : f ≤ 6) (l1 : 1 ≤ l) (l7 : l ≤ 7) (w : World) :
    Calls Try.prog 29 #[CV y mo d h mi s wd yd, .int .i64 f, .int .i64 l] w fun e w' => e = .returned (.tuple #[.int .i64 (CivT.wkY y (Cal.num y mo d) f l), .int .i64 (CivT.wkW y (Cal.num y mo d) f l)]) ∧ Below w.heap.size w w' := by
  obtain ⟨h1, h2, h3, h4, h5, h6, h7, h8, g9, g10⟩ := hr
  clear g9 g10
  obtain ⟨k1, k2, k3, k4, k5, k6⟩ := days_in h1 h2
  obtain ⟨n1, n2⟩ := num_in2 (m := mo) k1 k2 h1 k5
  have HN := refNum y mo d h mi s wd yd k1 k2 k3 k4 h1 k5
  have H0 : CivT.bw (y - 1) f l ≤ Cal.num y mo d := wk_low k6 l7
  obtain ⟨z1, z2⟩ := CivT.wkY_in y (Cal.num y mo d) f l
  have HW := Lib.hid (show CivT.wkW y (Cal.num y mo d) f l = (Cal.num y mo d - CivT.bw (CivT.wkY y (Cal.num y mo d) f l) f l) / 7 + 1 from rfl)
  clear k6
  unfold CV at *
  generalize Cal.num y mo d = N at *
  go_enter Try.func29, Try.ntmps29
  have L0 : Below w.heap.size w w := Below.refl _ _
  go_wp2_with fail
  have L1 : Below w.heap.size w (w.alloc (.cells #[.int .i64 y, .int .i64 mo, .int .i64 d, .int .i64 h, .int .i64 mi, .int .i64 s, .int .i64 wd, .int .i64 yd] 24)) := L0.alloc L0.size _
  have bp_1 := Blk8.new w (.int .i64 y) (.int .i64 mo) (.int .i64 d) (.int .i64 h) (.int .i64 mi) (.int .i64 s) (.int .i64 wd) (.int .i64 yd) 24
  clear L0
  refine (HN _).mono ?_
  rintro e w2 ⟨rfl, hb⟩
  have L2 := L1.trans (hb.mono L1.size)
  have bp_2 := bp_1.below hb
  clear bp_1
  clear hb
  clear L1
  obtain ⟨bplt, bpc0, bpc1, bpc2, bpc3, bpc4, bpc5, bpc6, bpc7, bpfz⟩ := bp_2
  go_wp2_with fail
  have bp_2 : Blk8 _ _ _ _ _ _ _ _ _ _ := ⟨bplt, bpc0, bpc1, bpc2, bpc3, bpc4, bpc5, bpc6, bpc7, bpfz⟩
  clear bplt bpc0 bpc1 bpc2 bpc3 bpc4 bpc5 bpc6 bpc7 bpfz
  go_loopw [9] (fun v wr => ∃ j : Int, CivT.wkY y N f l ≤ j ∧ j ≤ y + 1 ∧ v = .int .i64 j ∧ Below w.heap.size w wr) (fun v _ => (intOf v - (y - 3)).toNat)
  case atStart => exact ⟨y + 1, z2, by omega, rfl, L2⟩
  case round =>
    obtain ⟨j, j1, j2, rfl, LR⟩ := hrel
    have HB := begins_any j f l (by omega) (by omega) f0 f6 l1 l7
    obtain ⟨g1, g2⟩ := CivT.bw_in j f l l7
    have m1 : -5000000 ≤ Cal.num j 1 1 := by rw [CivT.num_one]; unfold Cal.fst; omega
    have m2 : Cal.num j 1 1 ≤ 5000000 := by rw [CivT.num_one]; unfold Cal.fst; omega
    by_cases hc : CivT.bw j f l ≤ N
    · obtain rfl := CivT.wkY_stop j1 j2 hc
      go_wp2_with fail
      refine (HB _).mono ?_
      rintro e w' ⟨rfl, rfl⟩
      go_wp2_with fail
      refine (HB _).mono ?_
      rintro e w' ⟨rfl, rfl⟩
      go_wp2_with fail
      go_ret2
      exact ⟨by rw [HW.out]; rfl, LR⟩
    · have hs := CivT.wkY_step j1 j2 hc H0
      go_wp2_with fail
      refine (HB _).mono ?_
      rintro e w' ⟨rfl, rfl⟩
      go_wp2_with fail
      go_roundw
      case rel => exact ⟨j - 1, hs, by omega, rfl, LR⟩
      case measure => simp [intOf]; omega
end Go.Proofs.Ytafoodfbjebdcaa
