/-
  Contracts of the leap years, the months' lengths, and the small helpers of the program and of the reference. Conditions: the bounds that each theorem names.
-/
import Derived.Test.YtafoodfbjebdcaaA
import Derived.WalkKit
import Derived.ProofKit
import Derived.Deep.QuietTactic
import Derived.BigQuiet
import Derived.Lib.Hide
namespace Go.Proofs.Ytafoodfbjebdcaa
open Go.ChangeShapes Go.WideShapes Go.ChangeAt Go.RowKit
theorem tmod_zero (y b : Int) : (y.tmod b == 0) = (y % b == 0) := by
  rw [Bool.eq_iff_iff, beq_iff_eq, beq_iff_eq]
  rw [← Int.dvd_iff_tmod_eq_zero, ← Int.dvd_iff_emod_eq_zero]
theorem blw_drewN {B : Nat} {a w : World} (h : Below B a w) (k : Nat) : Below B a (w.drewN k) := ⟨h.os, h.tape, h.output, h.size, h.block⟩
theorem cum_one (y : Int) : Cal.cum y 1 = 0 := by simp [Cal.cum, Cal.cum0]
theorem yrR_yes (y : Int) (h : -9999 ≤ y) (h' : y ≤ 9999) (w : World) :
    Calls Try.prog 15 #[.int .i64 y] w fun e w' => e = .returned (.bool true) ∧ w = w' := by
  go_enter Try.func15, Try.ntmps15
  go_wp2_with fail
  go_ret
  exact ⟨rfl, rfl⟩
theorem yrR_no (y : Int) (h : ¬ (-9999 ≤ y ∧ y ≤ 9999)) (w : World) :
    Calls Try.prog 15 #[.int .i64 y] w fun e w' => e = .returned (.bool false) ∧ w = w' := by
  by_cases h1 : -9999 ≤ y
  · have h2 : ¬ y ≤ 9999 := by omega
    go_enter Try.func15, Try.ntmps15
    go_wp2_with fail
    go_ret
    exact ⟨rfl, rfl⟩
  · go_enter Try.func15, Try.ntmps15
    go_wp2_with fail
    go_ret
    exact ⟨rfl, rfl⟩
theorem lengths_any (w : World) :
    Calls Try.prog 39 #[] w fun e w' => e = .returned (.agg #[.int .i64 0, .int .i64 31, .int .i64 28, .int .i64 31, .int .i64 30, .int .i64 31, .int .i64 30, .int .i64 31, .int .i64 31, .int .i64 30, .int .i64 31, .int .i64 30, .int .i64 31]) ∧ Below w.heap.size w w' := by
  go_enter Try.func39, Try.ntmps39
  go_wp2_with fail
  refine bodyPost_ret (v := .agg #[.int .i64 0, .int .i64 31, .int .i64 28, .int .i64 31, .int .i64 30, .int .i64 31, .int .i64 30, .int .i64 31, .int .i64 31, .int .i64 30, .int .i64 31, .int .i64 30, .int .i64 31]) ?_ rfl ⟨rfl, ?_⟩
  · simp [results, Try.results39, go_sem]
  · exact (Below.refl _ _).alloc (Nat.le_refl _) _
theorem leapP_c (b4 b100 b400 : Bool) (y : Int) (h4 : (y.tmod 4 == 0) = b4) (h100 : (y.tmod 100 != 0) = b100) (h400 : (y.tmod 400 == 0) = b400) (w : World) :
    Calls Try.prog 38 #[.int .i64 y] w fun e w' => e = .returned (.bool (b4 && (b100 || b400))) ∧ w = w' := by
  cases b4 <;> cases b100 <;> cases b400 <;> (go_enter Try.func38, Try.ntmps38; go_wp2_with fail; go_ret; exact ⟨rfl, rfl⟩)
theorem leapP (y : Int) (b : Bool) (h : Cal.lp y = b) (w : World) :
    Calls Try.prog 38 #[.int .i64 y] w fun e w' => e = .returned (.bool b) ∧ w = w' := by
  have := leapP_c _ _ _ y (tmod_zero y 4) (by rw [bne, tmod_zero y 100]) (tmod_zero y 400) w
  rw [← h]; exact this
theorem leapR_c (b4 b100 b400 : Bool) (y : Int) (h4 : (y.tmod 4 == 0) = b4) (h100 : (y.tmod 100 != 0) = b100) (h400 : (y.tmod 400 == 0) = b400) (w : World) :
    Calls Try.prog 16 #[.int .i64 y] w fun e w' => e = .returned (.bool (b4 && (b100 || b400))) ∧ w = w' := by
  cases b4 <;> cases b100 <;> cases b400 <;> (go_enter Try.func16, Try.ntmps16; go_wp2_with fail; go_ret; exact ⟨rfl, rfl⟩)
theorem leapR (y : Int) (b : Bool) (h : Cal.lp y = b) (w : World) :
    Calls Try.prog 16 #[.int .i64 y] w fun e w' => e = .returned (.bool b) ∧ w = w' := by
  have := leapR_c _ _ _ y (tmod_zero y 4) (by rw [bne, tmod_zero y 100]) (tmod_zero y 400) w
  rw [← h]; exact this
theorem dayP_1 (y : Int) (hy : -9999 ≤ y) (hy' : y ≤ 9999) (w : World) :
    Calls Try.prog 20 #[.int .i64 y, .int .i64 1] w fun e w' => e = .returned (.int .i64 31) ∧ Below w.heap.size w w' := by
  have ix : ∀ w, (Instr.index 54 (.agg #[.int .i64 0, .int .i64 31, .int .i64 28, .int .i64 31, .int .i64 30, .int .i64 31, .int .i64 30, .int .i64 31, .int .i64 31, .int .i64 30, .int .i64 31, .int .i64 30, .int .i64 31]) (.int .i64 1)).run Try.prog w = .ok (.int .i64 31) w := fun _ => by kernel_rfl
  go_enter Try.func20, Try.ntmps20
  go_wp2_with (first | (go_at_call 37; refine (isYear_yes _ (by omega) (by omega) _).mono ?_; rintro e w' ⟨rfl, rfl⟩) | (go_at_call 39; refine (lengths_any _).mono ?_; rintro e w' ⟨rfl, hb⟩))
  go_ret
  exact ⟨rfl, (by assumption)⟩
theorem dayP_2false (y : Int) (hy : -9999 ≤ y) (hy' : y ≤ 9999) (hl : Cal.lp y = false) (w : World) :
    Calls Try.prog 20 #[.int .i64 y, .int .i64 2] w fun e w' => e = .returned (.int .i64 28) ∧ Below w.heap.size w w' := by
  have ix : ∀ w, (Instr.index 54 (.agg #[.int .i64 0, .int .i64 31, .int .i64 28, .int .i64 31, .int .i64 30, .int .i64 31, .int .i64 30, .int .i64 31, .int .i64 31, .int .i64 30, .int .i64 31, .int .i64 30, .int .i64 31]) (.int .i64 2)).run Try.prog w = .ok (.int .i64 28) w := fun _ => by kernel_rfl
  have Hl := Lib.hid hl
  clear hl
  go_enter Try.func20, Try.ntmps20
  go_wp2_with (first | (go_at_call 37; refine (isYear_yes _ (by omega) (by omega) _).mono ?_; rintro e w' ⟨rfl, rfl⟩) | (go_at_call 38; refine (leapP _ _ Hl.out _).mono ?_; rintro e w' ⟨rfl, rfl⟩) | (go_at_call 39; refine (lengths_any _).mono ?_; rintro e w' ⟨rfl, hb⟩))
  go_ret
  exact ⟨rfl, (by assumption)⟩
theorem dayP_2true (y : Int) (hy : -9999 ≤ y) (hy' : y ≤ 9999) (hl : Cal.lp y = true) (w : World) :
    Calls Try.prog 20 #[.int .i64 y, .int .i64 2] w fun e w' => e = .returned (.int .i64 29) ∧ Below w.heap.size w w' := by
  have ix : ∀ w, (Instr.index 54 (.agg #[.int .i64 0, .int .i64 31, .int .i64 28, .int .i64 31, .int .i64 30, .int .i64 31, .int .i64 30, .int .i64 31, .int .i64 31, .int .i64 30, .int .i64 31, .int .i64 30, .int .i64 31]) (.int .i64 2)).run Try.prog w = .ok (.int .i64 28) w := fun _ => by kernel_rfl
  have Hl := Lib.hid hl
  clear hl
  go_enter Try.func20, Try.ntmps20
  go_wp2_with (first | (go_at_call 37; refine (isYear_yes _ (by omega) (by omega) _).mono ?_; rintro e w' ⟨rfl, rfl⟩) | (go_at_call 38; refine (leapP _ _ Hl.out _).mono ?_; rintro e w' ⟨rfl, rfl⟩) | (go_at_call 39; refine (lengths_any _).mono ?_; rintro e w' ⟨rfl, hb⟩))
  go_ret
  exact ⟨rfl, (by assumption)⟩
theorem dayP_3 (y : Int) (hy : -9999 ≤ y) (hy' : y ≤ 9999) (w : World) :
    Calls Try.prog 20 #[.int .i64 y, .int .i64 3] w fun e w' => e = .returned (.int .i64 31) ∧ Below w.heap.size w w' := by
  have ix : ∀ w, (Instr.index 54 (.agg #[.int .i64 0, .int .i64 31, .int .i64 28, .int .i64 31, .int .i64 30, .int .i64 31, .int .i64 30, .int .i64 31, .int .i64 31, .int .i64 30, .int .i64 31, .int .i64 30, .int .i64 31]) (.int .i64 3)).run Try.prog w = .ok (.int .i64 31) w := fun _ => by kernel_rfl
  go_enter Try.func20, Try.ntmps20
  go_wp2_with (first | (go_at_call 37; refine (isYear_yes _ (by omega) (by omega) _).mono ?_; rintro e w' ⟨rfl, rfl⟩) | (go_at_call 39; refine (lengths_any _).mono ?_; rintro e w' ⟨rfl, hb⟩))
  go_ret
  exact ⟨rfl, (by assumption)⟩
theorem dayP_4 (y : Int) (hy : -9999 ≤ y) (hy' : y ≤ 9999) (w : World) :
    Calls Try.prog 20 #[.int .i64 y, .int .i64 4] w fun e w' => e = .returned (.int .i64 30) ∧ Below w.heap.size w w' := by
  have ix : ∀ w, (Instr.index 54 (.agg #[.int .i64 0, .int .i64 31, .int .i64 28, .int .i64 31, .int .i64 30, .int .i64 31, .int .i64 30, .int .i64 31, .int .i64 31, .int .i64 30, .int .i64 31, .int .i64 30, .int .i64 31]) (.int .i64 4)).run Try.prog w = .ok (.int .i64 30) w := fun _ => by kernel_rfl
  go_enter Try.func20, Try.ntmps20
  go_wp2_with (first | (go_at_call 37; refine (isYear_yes _ (by omega) (by omega) _).mono ?_; rintro e w' ⟨rfl, rfl⟩) | (go_at_call 39; refine (lengths_any _).mono ?_; rintro e w' ⟨rfl, hb⟩))
  go_ret
  exact ⟨rfl, (by assumption)⟩
theorem dayP_5 (y : Int) (hy : -9999 ≤ y) (hy' : y ≤ 9999) (w : World) :
    Calls Try.prog 20 #[.int .i64 y, .int .i64 5] w fun e w' => e = .returned (.int .i64 31) ∧ Below w.heap.size w w' := by
  have ix : ∀ w, (Instr.index 54 (.agg #[.int .i64 0, .int .i64 31, .int .i64 28, .int .i64 31, .int .i64 30, .int .i64 31, .int .i64 30, .int .i64 31, .int .i64 31, .int .i64 30, .int .i64 31, .int .i64 30, .int .i64 31]) (.int .i64 5)).run Try.prog w = .ok (.int .i64 31) w := fun _ => by kernel_rfl
  go_enter Try.func20, Try.ntmps20
  go_wp2_with (first | (go_at_call 37; refine (isYear_yes _ (by omega) (by omega) _).mono ?_; rintro e w' ⟨rfl, rfl⟩) | (go_at_call 39; refine (lengths_any _).mono ?_; rintro e w' ⟨rfl, hb⟩))
  go_ret
  exact ⟨rfl, (by assumption)⟩
theorem dayP_6 (y : Int) (hy : -9999 ≤ y) (hy' : y ≤ 9999) (w : World) :
    Calls Try.prog 20 #[.int .i64 y, .int .i64 6] w fun e w' => e = .returned (.int .i64 30) ∧ Below w.heap.size w w' := by
  have ix : ∀ w, (Instr.index 54 (.agg #[.int .i64 0, .int .i64 31, .int .i64 28, .int .i64 31, .int .i64 30, .int .i64 31, .int .i64 30, .int .i64 31, .int .i64 31, .int .i64 30, .int .i64 31, .int .i64 30, .int .i64 31]) (.int .i64 6)).run Try.prog w = .ok (.int .i64 30) w := fun _ => by kernel_rfl
  go_enter Try.func20, Try.ntmps20
  go_wp2_with (first | (go_at_call 37; refine (isYear_yes _ (by omega) (by omega) _).mono ?_; rintro e w' ⟨rfl, rfl⟩) | (go_at_call 39; refine (lengths_any _).mono ?_; rintro e w' ⟨rfl, hb⟩))
  go_ret
  exact ⟨rfl, (by assumption)⟩
theorem dayP_7 (y : Int) (hy : -9999 ≤ y) (hy' : y ≤ 9999) (w : World) :
    Calls Try.prog 20 #[.int .i64 y, .int .i64 7] w fun e w' => e = .returned (.int .i64 31) ∧ Below w.heap.size w w' := by
  have ix : ∀ w, (Instr.index 54 (.agg #[.int .i64 0, .int .i64 31, .int .i64 28, .int .i64 31, .int .i64 30, .int .i64 31, .int .i64 30, .int .i64 31, .int .i64 31, .int .i64 30, .int .i64 31, .int .i64 30, .int .i64 31]) (.int .i64 7)).run Try.prog w = .ok (.int .i64 31) w := fun _ => by kernel_rfl
  go_enter Try.func20, Try.ntmps20
  go_wp2_with (first | (go_at_call 37; refine (isYear_yes _ (by omega) (by omega) _).mono ?_; rintro e w' ⟨rfl, rfl⟩) | (go_at_call 39; refine (lengths_any _).mono ?_; rintro e w' ⟨rfl, hb⟩))
  go_ret
  exact ⟨rfl, (by assumption)⟩
theorem dayP_8 (y : Int) (hy : -9999 ≤ y) (hy' : y ≤ 9999) (w : World) :
    Calls Try.prog 20 #[.int .i64 y, .int .i64 8] w fun e w' => e = .returned (.int .i64 31) ∧ Below w.heap.size w w' := by
  have ix : ∀ w, (Instr.index 54 (.agg #[.int .i64 0, .int .i64 31, .int .i64 28, .int .i64 31, .int .i64 30, .int .i64 31, .int .i64 30, .int .i64 31, .int .i64 31, .int .i64 30, .int .i64 31, .int .i64 30, .int .i64 31]) (.int .i64 8)).run Try.prog w = .ok (.int .i64 31) w := fun _ => by kernel_rfl
  go_enter Try.func20, Try.ntmps20
  go_wp2_with (first | (go_at_call 37; refine (isYear_yes _ (by omega) (by omega) _).mono ?_; rintro e w' ⟨rfl, rfl⟩) | (go_at_call 39; refine (lengths_any _).mono ?_; rintro e w' ⟨rfl, hb⟩))
  go_ret
  exact ⟨rfl, (by assumption)⟩
theorem dayP_9 (y : Int) (hy : -9999 ≤ y) (hy' : y ≤ 9999) (w : World) :
    Calls Try.prog 20 #[.int .i64 y, .int .i64 9] w fun e w' => e = .returned (.int .i64 30) ∧ Below w.heap.size w w' := by
  have ix : ∀ w, (Instr.index 54 (.agg #[.int .i64 0, .int .i64 31, .int .i64 28, .int .i64 31, .int .i64 30, .int .i64 31, .int .i64 30, .int .i64 31, .int .i64 31, .int .i64 30, .int .i64 31, .int .i64 30, .int .i64 31]) (.int .i64 9)).run Try.prog w = .ok (.int .i64 30) w := fun _ => by kernel_rfl
  go_enter Try.func20, Try.ntmps20
  go_wp2_with (first | (go_at_call 37; refine (isYear_yes _ (by omega) (by omega) _).mono ?_; rintro e w' ⟨rfl, rfl⟩) | (go_at_call 39; refine (lengths_any _).mono ?_; rintro e w' ⟨rfl, hb⟩))
  go_ret
  exact ⟨rfl, (by assumption)⟩
theorem dayP_10 (y : Int) (hy : -9999 ≤ y) (hy' : y ≤ 9999) (w : World) :
    Calls Try.prog 20 #[.int .i64 y, .int .i64 10] w fun e w' => e = .returned (.int .i64 31) ∧ Below w.heap.size w w' := by
  have ix : ∀ w, (Instr.index 54 (.agg #[.int .i64 0, .int .i64 31, .int .i64 28, .int .i64 31, .int .i64 30, .int .i64 31, .int .i64 30, .int .i64 31, .int .i64 31, .int .i64 30, .int .i64 31, .int .i64 30, .int .i64 31]) (.int .i64 10)).run Try.prog w = .ok (.int .i64 31) w := fun _ => by kernel_rfl
  go_enter Try.func20, Try.ntmps20
  go_wp2_with (first | (go_at_call 37; refine (isYear_yes _ (by omega) (by omega) _).mono ?_; rintro e w' ⟨rfl, rfl⟩) | (go_at_call 39; refine (lengths_any _).mono ?_; rintro e w' ⟨rfl, hb⟩))
  go_ret
  exact ⟨rfl, (by assumption)⟩
theorem dayP_11 (y : Int) (hy : -9999 ≤ y) (hy' : y ≤ 9999) (w : World) :
    Calls Try.prog 20 #[.int .i64 y, .int .i64 11] w fun e w' => e = .returned (.int .i64 30) ∧ Below w.heap.size w w' := by
  have ix : ∀ w, (Instr.index 54 (.agg #[.int .i64 0, .int .i64 31, .int .i64 28, .int .i64 31, .int .i64 30, .int .i64 31, .int .i64 30, .int .i64 31, .int .i64 31, .int .i64 30, .int .i64 31, .int .i64 30, .int .i64 31]) (.int .i64 11)).run Try.prog w = .ok (.int .i64 30) w := fun _ => by kernel_rfl
  go_enter Try.func20, Try.ntmps20
  go_wp2_with (first | (go_at_call 37; refine (isYear_yes _ (by omega) (by omega) _).mono ?_; rintro e w' ⟨rfl, rfl⟩) | (go_at_call 39; refine (lengths_any _).mono ?_; rintro e w' ⟨rfl, hb⟩))
  go_ret
  exact ⟨rfl, (by assumption)⟩
theorem dayP_12 (y : Int) (hy : -9999 ≤ y) (hy' : y ≤ 9999) (w : World) :
    Calls Try.prog 20 #[.int .i64 y, .int .i64 12] w fun e w' => e = .returned (.int .i64 31) ∧ Below w.heap.size w w' := by
  have ix : ∀ w, (Instr.index 54 (.agg #[.int .i64 0, .int .i64 31, .int .i64 28, .int .i64 31, .int .i64 30, .int .i64 31, .int .i64 30, .int .i64 31, .int .i64 31, .int .i64 30, .int .i64 31, .int .i64 30, .int .i64 31]) (.int .i64 12)).run Try.prog w = .ok (.int .i64 31) w := fun _ => by kernel_rfl
  go_enter Try.func20, Try.ntmps20
  go_wp2_with (first | (go_at_call 37; refine (isYear_yes _ (by omega) (by omega) _).mono ?_; rintro e w' ⟨rfl, rfl⟩) | (go_at_call 39; refine (lengths_any _).mono ?_; rintro e w' ⟨rfl, hb⟩))
  go_ret
  exact ⟨rfl, (by assumption)⟩
theorem dayP_yes (y m : Int) (hy : -9999 ≤ y) (hy' : y ≤ 9999) (hm : 1 ≤ m) (hm' : m ≤ 12) (w : World) :
    Calls Try.prog 20 #[.int .i64 y, .int .i64 m] w fun e w' => e = .returned (.int .i64 (Cal.dim y m)) ∧ Below w.heap.size w w' := by
  rcases Cal.months hm hm' with h|h|h|h|h|h|h|h|h|h|h|h <;> subst h
  · exact dayP_1 y hy hy' w
  · cases hl : Cal.lp y
    · have e : Cal.dim y 2 = 28 := by simp [Cal.dim, hl]
      rw [e]; exact dayP_2false y hy hy' hl w
    · have e : Cal.dim y 2 = 29 := by simp [Cal.dim, hl]
      rw [e]; exact dayP_2true y hy hy' hl w
  · exact dayP_3 y hy hy' w
  · exact dayP_4 y hy hy' w
  · exact dayP_5 y hy hy' w
  · exact dayP_6 y hy hy' w
  · exact dayP_7 y hy hy' w
  · exact dayP_8 y hy hy' w
  · exact dayP_9 y hy hy' w
  · exact dayP_10 y hy hy' w
  · exact dayP_11 y hy hy' w
  · exact dayP_12 y hy hy' w
theorem dayP_no (y m : Int) (h : ¬ (-9999 ≤ y ∧ y ≤ 9999 ∧ 1 ≤ m ∧ m ≤ 12)) (w : World) :
    Calls Try.prog 20 #[.int .i64 y, .int .i64 m] w fun e w' => e = .returned (.int .i64 0) ∧ Below w.heap.size w w' := by
  by_cases h1 : -9999 ≤ y ∧ y ≤ 9999
  · obtain ⟨h1, h2⟩ := h1
    by_cases h3 : 1 ≤ m
    · have h4 : ¬ m ≤ 12 := by omega
      clear h
      go_enter Try.func20, Try.ntmps20
      go_wp2_with (go_at_call 37; refine (isYear_yes _ (by omega) (by omega) _).mono ?_; rintro e w' ⟨rfl, rfl⟩)
      go_ret
      exact ⟨rfl, Below.refl _ _⟩
    · clear h
      go_enter Try.func20, Try.ntmps20
      go_wp2_with (go_at_call 37; refine (isYear_yes _ (by omega) (by omega) _).mono ?_; rintro e w' ⟨rfl, rfl⟩)
      go_ret
      exact ⟨rfl, Below.refl _ _⟩
  · clear h
    go_enter Try.func20, Try.ntmps20
    go_wp2_with (go_at_call 37; refine (isYear_no _ (by omega) _).mono ?_; rintro e w' ⟨rfl, rfl⟩)
    go_ret
    exact ⟨rfl, Below.refl _ _⟩
theorem dayP (y m : Int) (w : World) :
    Calls Try.prog 20 #[.int .i64 y, .int .i64 m] w fun e w' => e = .returned (.int .i64 (Cal.days y m)) ∧ Below w.heap.size w w' := by
  unfold Cal.days
  by_cases h : -9999 ≤ y ∧ y ≤ 9999 ∧ 1 ≤ m ∧ m ≤ 12
  · rw [if_pos h]; exact dayP_yes y m h.1 h.2.1 h.2.2.1 h.2.2.2 w
  · rw [if_neg h]; exact dayP_no y m h w
theorem dayR_1 (y : Int) (hy : -9999 ≤ y) (hy' : y ≤ 9999) (w : World) :
    Calls Try.prog 18 #[.int .i64 y, .int .i64 1] w fun e w' => e = .returned (.int .i64 31) ∧ w = w' := by
  have ix : ∀ w, (Instr.index 54 (.agg #[.int .i64 0, .int .i64 31, .int .i64 28, .int .i64 31, .int .i64 30, .int .i64 31, .int .i64 30, .int .i64 31, .int .i64 31, .int .i64 30, .int .i64 31, .int .i64 30, .int .i64 31]) (.int .i64 1)).run Try.prog w = .ok (.int .i64 31) w := fun _ => by kernel_rfl
  go_enter Try.func18, Try.ntmps18
  go_wp2_with (first | (go_at_call 15; refine (yrR_yes _ (by omega) (by omega) _).mono ?_; rintro e w' ⟨rfl, rfl⟩))
  go_ret
  exact ⟨rfl, rfl⟩
theorem dayR_2false (y : Int) (hy : -9999 ≤ y) (hy' : y ≤ 9999) (hl : Cal.lp y = false) (w : World) :
    Calls Try.prog 18 #[.int .i64 y, .int .i64 2] w fun e w' => e = .returned (.int .i64 28) ∧ w = w' := by
  have ix : ∀ w, (Instr.index 54 (.agg #[.int .i64 0, .int .i64 31, .int .i64 28, .int .i64 31, .int .i64 30, .int .i64 31, .int .i64 30, .int .i64 31, .int .i64 31, .int .i64 30, .int .i64 31, .int .i64 30, .int .i64 31]) (.int .i64 2)).run Try.prog w = .ok (.int .i64 28) w := fun _ => by kernel_rfl
  have Hl := Lib.hid hl
  clear hl
  go_enter Try.func18, Try.ntmps18
  go_wp2_with (first | (go_at_call 15; refine (yrR_yes _ (by omega) (by omega) _).mono ?_; rintro e w' ⟨rfl, rfl⟩) | (go_at_call 16; refine (leapR _ _ Hl.out _).mono ?_; rintro e w' ⟨rfl, rfl⟩))
  go_ret
  exact ⟨rfl, rfl⟩
theorem dayR_2true (y : Int) (hy : -9999 ≤ y) (hy' : y ≤ 9999) (hl : Cal.lp y = true) (w : World) :
    Calls Try.prog 18 #[.int .i64 y, .int .i64 2] w fun e w' => e = .returned (.int .i64 29) ∧ w = w' := by
  have ix : ∀ w, (Instr.index 54 (.agg #[.int .i64 0, .int .i64 31, .int .i64 28, .int .i64 31, .int .i64 30, .int .i64 31, .int .i64 30, .int .i64 31, .int .i64 31, .int .i64 30, .int .i64 31, .int .i64 30, .int .i64 31]) (.int .i64 2)).run Try.prog w = .ok (.int .i64 28) w := fun _ => by kernel_rfl
  have Hl := Lib.hid hl
  clear hl
  go_enter Try.func18, Try.ntmps18
  go_wp2_with (first | (go_at_call 15; refine (yrR_yes _ (by omega) (by omega) _).mono ?_; rintro e w' ⟨rfl, rfl⟩) | (go_at_call 16; refine (leapR _ _ Hl.out _).mono ?_; rintro e w' ⟨rfl, rfl⟩))
  go_ret
  exact ⟨rfl, rfl⟩
theorem dayR_3 (y : Int) (hy : -9999 ≤ y) (hy' : y ≤ 9999) (w : World) :
    Calls Try.prog 18 #[.int .i64 y, .int .i64 3] w fun e w' => e = .returned (.int .i64 31) ∧ w = w' := by
  have ix : ∀ w, (Instr.index 54 (.agg #[.int .i64 0, .int .i64 31, .int .i64 28, .int .i64 31, .int .i64 30, .int .i64 31, .int .i64 30, .int .i64 31, .int .i64 31, .int .i64 30, .int .i64 31, .int .i64 30, .int .i64 31]) (.int .i64 3)).run Try.prog w = .ok (.int .i64 31) w := fun _ => by kernel_rfl
  go_enter Try.func18, Try.ntmps18
  go_wp2_with (first | (go_at_call 15; refine (yrR_yes _ (by omega) (by omega) _).mono ?_; rintro e w' ⟨rfl, rfl⟩))
  go_ret
  exact ⟨rfl, rfl⟩
theorem dayR_4 (y : Int) (hy : -9999 ≤ y) (hy' : y ≤ 9999) (w : World) :
    Calls Try.prog 18 #[.int .i64 y, .int .i64 4] w fun e w' => e = .returned (.int .i64 30) ∧ w = w' := by
  have ix : ∀ w, (Instr.index 54 (.agg #[.int .i64 0, .int .i64 31, .int .i64 28, .int .i64 31, .int .i64 30, .int .i64 31, .int .i64 30, .int .i64 31, .int .i64 31, .int .i64 30, .int .i64 31, .int .i64 30, .int .i64 31]) (.int .i64 4)).run Try.prog w = .ok (.int .i64 30) w := fun _ => by kernel_rfl
  go_enter Try.func18, Try.ntmps18
  go_wp2_with (first | (go_at_call 15; refine (yrR_yes _ (by omega) (by omega) _).mono ?_; rintro e w' ⟨rfl, rfl⟩))
  go_ret
  exact ⟨rfl, rfl⟩
theorem dayR_5 (y : Int) (hy : -9999 ≤ y) (hy' : y ≤ 9999) (w : World) :
    Calls Try.prog 18 #[.int .i64 y, .int .i64 5] w fun e w' => e = .returned (.int .i64 31) ∧ w = w' := by
  have ix : ∀ w, (Instr.index 54 (.agg #[.int .i64 0, .int .i64 31, .int .i64 28, .int .i64 31, .int .i64 30, .int .i64 31, .int .i64 30, .int .i64 31, .int .i64 31, .int .i64 30, .int .i64 31, .int .i64 30, .int .i64 31]) (.int .i64 5)).run Try.prog w = .ok (.int .i64 31) w := fun _ => by kernel_rfl
  go_enter Try.func18, Try.ntmps18
  go_wp2_with (first | (go_at_call 15; refine (yrR_yes _ (by omega) (by omega) _).mono ?_; rintro e w' ⟨rfl, rfl⟩))
  go_ret
  exact ⟨rfl, rfl⟩
theorem dayR_6 (y : Int) (hy : -9999 ≤ y) (hy' : y ≤ 9999) (w : World) :
    Calls Try.prog 18 #[.int .i64 y, .int .i64 6] w fun e w' => e = .returned (.int .i64 30) ∧ w = w' := by
  have ix : ∀ w, (Instr.index 54 (.agg #[.int .i64 0, .int .i64 31, .int .i64 28, .int .i64 31, .int .i64 30, .int .i64 31, .int .i64 30, .int .i64 31, .int .i64 31, .int .i64 30, .int .i64 31, .int .i64 30, .int .i64 31]) (.int .i64 6)).run Try.prog w = .ok (.int .i64 30) w := fun _ => by kernel_rfl
  go_enter Try.func18, Try.ntmps18
  go_wp2_with (first | (go_at_call 15; refine (yrR_yes _ (by omega) (by omega) _).mono ?_; rintro e w' ⟨rfl, rfl⟩))
  go_ret
  exact ⟨rfl, rfl⟩
theorem dayR_7 (y : Int) (hy : -9999 ≤ y) (hy' : y ≤ 9999) (w : World) :
    Calls Try.prog 18 #[.int .i64 y, .int .i64 7] w fun e w' => e = .returned (.int .i64 31) ∧ w = w' := by
  have ix : ∀ w, (Instr.index 54 (.agg #[.int .i64 0, .int .i64 31, .int .i64 28, .int .i64 31, .int .i64 30, .int .i64 31, .int .i64 30, .int .i64 31, .int .i64 31, .int .i64 30, .int .i64 31, .int .i64 30, .int .i64 31]) (.int .i64 7)).run Try.prog w = .ok (.int .i64 31) w := fun _ => by kernel_rfl
  go_enter Try.func18, Try.ntmps18
  go_wp2_with (first | (go_at_call 15; refine (yrR_yes _ (by omega) (by omega) _).mono ?_; rintro e w' ⟨rfl, rfl⟩))
  go_ret
  exact ⟨rfl, rfl⟩
theorem dayR_8 (y : Int) (hy : -9999 ≤ y) (hy' : y ≤ 9999) (w : World) :
    Calls Try.prog 18 #[.int .i64 y, .int .i64 8] w fun e w' => e = .returned (.int .i64 31) ∧ w = w' := by
  have ix : ∀ w, (Instr.index 54 (.agg #[.int .i64 0, .int .i64 31, .int .i64 28, .int .i64 31, .int .i64 30, .int .i64 31, .int .i64 30, .int .i64 31, .int .i64 31, .int .i64 30, .int .i64 31, .int .i64 30, .int .i64 31]) (.int .i64 8)).run Try.prog w = .ok (.int .i64 31) w := fun _ => by kernel_rfl
  go_enter Try.func18, Try.ntmps18
  go_wp2_with (first | (go_at_call 15; refine (yrR_yes _ (by omega) (by omega) _).mono ?_; rintro e w' ⟨rfl, rfl⟩))
  go_ret
  exact ⟨rfl, rfl⟩
theorem dayR_9 (y : Int) (hy : -9999 ≤ y) (hy' : y ≤ 9999) (w : World) :
    Calls Try.prog 18 #[.int .i64 y, .int .i64 9] w fun e w' => e = .returned (.int .i64 30) ∧ w = w' := by
  have ix : ∀ w, (Instr.index 54 (.agg #[.int .i64 0, .int .i64 31, .int .i64 28, .int .i64 31, .int .i64 30, .int .i64 31, .int .i64 30, .int .i64 31, .int .i64 31, .int .i64 30, .int .i64 31, .int .i64 30, .int .i64 31]) (.int .i64 9)).run Try.prog w = .ok (.int .i64 30) w := fun _ => by kernel_rfl
  go_enter Try.func18, Try.ntmps18
  go_wp2_with (first | (go_at_call 15; refine (yrR_yes _ (by omega) (by omega) _).mono ?_; rintro e w' ⟨rfl, rfl⟩))
  go_ret
  exact ⟨rfl, rfl⟩
theorem dayR_10 (y : Int) (hy : -9999 ≤ y) (hy' : y ≤ 9999) (w : World) :
    Calls Try.prog 18 #[.int .i64 y, .int .i64 10] w fun e w' => e = .returned (.int .i64 31) ∧ w = w' := by
  have ix : ∀ w, (Instr.index 54 (.agg #[.int .i64 0, .int .i64 31, .int .i64 28, .int .i64 31, .int .i64 30, .int .i64 31, .int .i64 30, .int .i64 31, .int .i64 31, .int .i64 30, .int .i64 31, .int .i64 30, .int .i64 31]) (.int .i64 10)).run Try.prog w = .ok (.int .i64 31) w := fun _ => by kernel_rfl
  go_enter Try.func18, Try.ntmps18
  go_wp2_with (first | (go_at_call 15; refine (yrR_yes _ (by omega) (by omega) _).mono ?_; rintro e w' ⟨rfl, rfl⟩))
  go_ret
  exact ⟨rfl, rfl⟩
theorem dayR_11 (y : Int) (hy : -9999 ≤ y) (hy' : y ≤ 9999) (w : World) :
    Calls Try.prog 18 #[.int .i64 y, .int .i64 11] w fun e w' => e = .returned (.int .i64 30) ∧ w = w' := by
  have ix : ∀ w, (Instr.index 54 (.agg #[.int .i64 0, .int .i64 31, .int .i64 28, .int .i64 31, .int .i64 30, .int .i64 31, .int .i64 30, .int .i64 31, .int .i64 31, .int .i64 30, .int .i64 31, .int .i64 30, .int .i64 31]) (.int .i64 11)).run Try.prog w = .ok (.int .i64 30) w := fun _ => by kernel_rfl
  go_enter Try.func18, Try.ntmps18
  go_wp2_with (first | (go_at_call 15; refine (yrR_yes _ (by omega) (by omega) _).mono ?_; rintro e w' ⟨rfl, rfl⟩))
  go_ret
  exact ⟨rfl, rfl⟩
theorem dayR_12 (y : Int) (hy : -9999 ≤ y) (hy' : y ≤ 9999) (w : World) :
    Calls Try.prog 18 #[.int .i64 y, .int .i64 12] w fun e w' => e = .returned (.int .i64 31) ∧ w = w' := by
  have ix : ∀ w, (Instr.index 54 (.agg #[.int .i64 0, .int .i64 31, .int .i64 28, .int .i64 31, .int .i64 30, .int .i64 31, .int .i64 30, .int .i64 31, .int .i64 31, .int .i64 30, .int .i64 31, .int .i64 30, .int .i64 31]) (.int .i64 12)).run Try.prog w = .ok (.int .i64 31) w := fun _ => by kernel_rfl
  go_enter Try.func18, Try.ntmps18
  go_wp2_with (first | (go_at_call 15; refine (yrR_yes _ (by omega) (by omega) _).mono ?_; rintro e w' ⟨rfl, rfl⟩))
  go_ret
  exact ⟨rfl, rfl⟩
theorem dayR_yes (y m : Int) (hy : -9999 ≤ y) (hy' : y ≤ 9999) (hm : 1 ≤ m) (hm' : m ≤ 12) (w : World) :
    Calls Try.prog 18 #[.int .i64 y, .int .i64 m] w fun e w' => e = .returned (.int .i64 (Cal.dim y m)) ∧ w = w' := by
  rcases Cal.months hm hm' with h|h|h|h|h|h|h|h|h|h|h|h <;> subst h
  · exact dayR_1 y hy hy' w
  · cases hl : Cal.lp y
    · have e : Cal.dim y 2 = 28 := by simp [Cal.dim, hl]
      rw [e]; exact dayR_2false y hy hy' hl w
    · have e : Cal.dim y 2 = 29 := by simp [Cal.dim, hl]
      rw [e]; exact dayR_2true y hy hy' hl w
  · exact dayR_3 y hy hy' w
  · exact dayR_4 y hy hy' w
  · exact dayR_5 y hy hy' w
  · exact dayR_6 y hy hy' w
  · exact dayR_7 y hy hy' w
  · exact dayR_8 y hy hy' w
  · exact dayR_9 y hy hy' w
  · exact dayR_10 y hy hy' w
  · exact dayR_11 y hy hy' w
  · exact dayR_12 y hy hy' w
theorem dayR_no (y m : Int) (h : ¬ (-9999 ≤ y ∧ y ≤ 9999 ∧ 1 ≤ m ∧ m ≤ 12)) (w : World) :
    Calls Try.prog 18 #[.int .i64 y, .int .i64 m] w fun e w' => e = .returned (.int .i64 0) ∧ w = w' := by
  by_cases h1 : -9999 ≤ y ∧ y ≤ 9999
  · obtain ⟨h1, h2⟩ := h1
    by_cases h3 : 1 ≤ m
    · have h4 : ¬ m ≤ 12 := by omega
      clear h
      go_enter Try.func18, Try.ntmps18
      go_wp2_with (go_at_call 15; refine (yrR_yes _ (by omega) (by omega) _).mono ?_; rintro e w' ⟨rfl, rfl⟩)
      go_ret
      exact ⟨rfl, rfl⟩
    · clear h
      go_enter Try.func18, Try.ntmps18
      go_wp2_with (go_at_call 15; refine (yrR_yes _ (by omega) (by omega) _).mono ?_; rintro e w' ⟨rfl, rfl⟩)
      go_ret
      exact ⟨rfl, rfl⟩
  · clear h
    go_enter Try.func18, Try.ntmps18
    go_wp2_with (go_at_call 15; refine (yrR_no _ (by omega) _).mono ?_; rintro e w' ⟨rfl, rfl⟩)
    go_ret
    exact ⟨rfl, rfl⟩
theorem dayR (y m : Int) (w : World) :
    Calls Try.prog 18 #[.int .i64 y, .int .i64 m] w fun e w' => e = .returned (.int .i64 (Cal.days y m)) ∧ w = w' := by
  unfold Cal.days
  by_cases h : -9999 ≤ y ∧ y ≤ 9999 ∧ 1 ≤ m ∧ m ≤ 12
  · rw [if_pos h]; exact dayR_yes y m h.1 h.2.1 h.2.2.1 h.2.2.2 w
  · rw [if_neg h]; exact dayR_no y m h w
theorem may_yes (y : Int) (h : -86399 ≤ y) (h' : y ≤ 86399) (w : World) :
    Calls Try.prog 30 #[.int .i64 y] w fun e w' => e = .returned (.bool true) ∧ w = w' := by
  go_enter Try.func30, Try.ntmps30
  go_wp2_with fail
  go_ret
  exact ⟨rfl, rfl⟩
theorem may_no (y : Int) (h : ¬ (-86399 ≤ y ∧ y ≤ 86399)) (w : World) :
    Calls Try.prog 30 #[.int .i64 y] w fun e w' => e = .returned (.bool false) ∧ w = w' := by
  by_cases h1 : -86399 ≤ y
  · have h2 : ¬ y ≤ 86399 := by omega
    go_enter Try.func30, Try.ntmps30
    go_wp2_with fail
    go_ret
    exact ⟨rfl, rfl⟩
  · go_enter Try.func30, Try.ntmps30
    go_wp2_with fail
    go_ret
    exact ⟨rfl, rfl⟩
theorem below_any (n b : Int) (hb : 1 ≤ b) (hb' : b ≤ 1000000) (hn : -4611686018427387904 ≤ n) (hn' : n ≤ 4611686018427387904) (w : World) :
    Calls Try.prog 44 #[.int .i64 n, .int .i64 b] w fun e w' => e = .returned (.int .i64 (n / b)) ∧ w = w' := by
  by_cases h0 : 0 ≤ n
  · have hm := Int.emod_nonneg n (show b ≠ 0 by omega)
    go_enter Try.func44, Try.ntmps44
    go_wp2_with fail
    go_ret
    exact ⟨rfl, rfl⟩
  · obtain ⟨f1, f2, b1, b2, b3, b4⟩ := tdm2 n b (by omega) hb
    have H1 := Lib.hid f1
    have H2 := Lib.hid f2
    clear f1 f2
    go_enter Try.func44, Try.ntmps44
    go_wp2_with fail
    · have h : n.tmod b < 0 := by assumption
      go_ret
      exact ⟨ret_int (H1.out h).1, rfl⟩
    · have h : 0 ≤ n.tmod b := by assumption
      go_ret
      exact ⟨ret_int (H2.out h).1, rfl⟩
theorem first_any (y : Int) (hy : -1000000 ≤ y) (hy' : y ≤ 1000000) (w : World) :
    Calls Try.prog 33 #[.int .i64 y] w fun e w' => e = .returned (.int .i64 (Cal.fst y)) ∧ w = w' := by
  go_enter Try.func33, Try.ntmps33
  go_wp2_with (go_at_call 44; refine (below_any _ _ (by omega) (by omega) (by omega) (by omega) _).mono ?_; rintro e w' ⟨rfl, rfl⟩)
  go_ret
  exact ⟨rfl, rfl⟩
theorem epoch_any (w : World) :
    Calls Try.prog 34 #[] w fun e w' => e = .returned (.int .i64 719528) ∧ w = w' := by
  go_enter Try.func34, Try.ntmps34
  go_wp2_with (go_at_call 33; refine (first_any _ (by omega) (by omega) _).mono ?_; rintro e w' ⟨rfl, rfl⟩)
  go_ret
  exact ⟨rfl, rfl⟩
theorem length_any (y : Int) (b : Bool) (h : Cal.lp y = b) (w : World) :
    Calls Try.prog 35 #[.int .i64 y] w fun e w' => e = .returned (.int .i64 (if b then 366 else 365)) ∧ w = w' := by
  have H := Lib.hid h
  clear h
  cases b <;> (go_enter Try.func35, Try.ntmps35; go_wp2_with (go_at_call 16; refine (leapR _ _ H.out _).mono ?_; rintro e w' ⟨rfl, rfl⟩); go_ret; exact ⟨rfl, rfl⟩)
theorem floor_any (n : Int) (hn : -4611686018427387904 ≤ n) (hn' : n ≤ 4611686018427387904) (w : World) :
    Calls Try.prog 13 #[.int .i64 n] w fun e w' => e = .returned (.tuple #[.int .i64 (n / 86400), .int .i64 (n % 86400)]) ∧ w = w' := by
  by_cases h0 : 0 ≤ n
  · have hm := Int.emod_nonneg n (show 86400 ≠ 0 by omega)
    go_enter Try.func13, Try.ntmps13
    go_wp2_with fail
    go_ret2
    exact ⟨rfl, rfl⟩
  · obtain ⟨f1, f2, b1, b2, b3, b4⟩ := tdm2 n 86400 (by omega) (by omega)
    have H1 := Lib.hid f1
    have H2 := Lib.hid f2
    clear f1 f2
    go_enter Try.func13, Try.ntmps13
    go_wp2_with fail
    · have h : n.tmod 86400 < 0 := by assumption
      go_ret2
      exact ⟨ret_pair (int_eq (H1.out h).1) (int_eq (H1.out h).2), rfl⟩
    · have h : 0 ≤ n.tmod 86400 := by assumption
      go_ret2
      exact ⟨ret_pair (int_eq (H2.out h).1) (int_eq (H2.out h).2), rfl⟩
end Go.Proofs.Ytafoodfbjebdcaa

