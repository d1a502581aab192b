/-
  Contracts of civil.Leap, civil.Date, and the reference's Number: each returns what the plain calendar says. Conditions: the bounds that each theorem names.
-/
import Derived.Test.YtafoodfbjebdcaaE
import Derived.WalkKit
import Derived.ProofKit
import Derived.Deep.QuietTactic
import Derived.BigQuiet
import Derived.Lib.Hide
import Derived.WalkLawsBesides
import Derived.Lib.QuietBelow
import Derived.Deep.RegionHeld3
import Derived.Deep.DrawnRows
namespace Go.Proofs.Ytafoodfbjebdcaa
open Go.ChangeShapes Go.WideShapes Go.ChangeAt Go.RowKit
/-- a block of eight cells, and that it may be written -/
structure Blk8 (B : Nat) (w : World) (c0 c1 c2 c3 c4 c5 c6 c7 : Value) : Prop where
  lt : B < w.heap.size
  a0 : w.cell? ⟨B, 0, none⟩ = some c0
  a1 : w.cell? ⟨B, 1, none⟩ = some c1
  a2 : w.cell? ⟨B, 2, none⟩ = some c2
  a3 : w.cell? ⟨B, 3, none⟩ = some c3
  a4 : w.cell? ⟨B, 4, none⟩ = some c4
  a5 : w.cell? ⟨B, 5, none⟩ = some c5
  a6 : w.cell? ⟨B, 6, none⟩ = some c6
  a7 : w.cell? ⟨B, 7, none⟩ = some c7
  fz : ∀ o, w.frozen? ⟨B, o, none⟩ = false
theorem Blk8.below {B : Nat} {w w1 : World} {c0 c1 c2 c3 c4 c5 c6 c7 : Value} (h : Blk8 B w c0 c1 c2 c3 c4 c5 c6 c7) (hb : Below w.heap.size w w1) : Blk8 B w1 c0 c1 c2 c3 c4 c5 c6 c7 := by
  obtain ⟨hc, hf⟩ := bcell hb
  exact ⟨Nat.lt_of_lt_of_le h.lt hb.size, (hc _ _ h.lt).trans h.a0, (hc _ _ h.lt).trans h.a1, (hc _ _ h.lt).trans h.a2, (hc _ _ h.lt).trans h.a3, (hc _ _ h.lt).trans h.a4, (hc _ _ h.lt).trans h.a5, (hc _ _ h.lt).trans h.a6, (hc _ _ h.lt).trans h.a7, fun o => (hf _ _ h.lt).trans (h.fz o)⟩
theorem Blk8.drewN {B : Nat} {w : World} {c0 c1 c2 c3 c4 c5 c6 c7 : Value} (h : Blk8 B w c0 c1 c2 c3 c4 c5 c6 c7) (k : Nat) : Blk8 B (w.drewN k) c0 c1 c2 c3 c4 c5 c6 c7 :=
  ⟨h.lt, h.a0, h.a1, h.a2, h.a3, h.a4, h.a5, h.a6, h.a7, h.fz⟩
theorem Blk8.new (w : World) (c0 c1 c2 c3 c4 c5 c6 c7 : Value) (t : TypeId) : Blk8 w.heap.size (w.alloc (.cells #[c0, c1, c2, c3, c4, c5, c6, c7] t)) c0 c1 c2 c3 c4 c5 c6 c7 := by
  constructor <;> simp
theorem Blk8.alloc {B : Nat} {w : World} {c0 c1 c2 c3 c4 c5 c6 c7 : Value} (h : Blk8 B w c0 c1 c2 c3 c4 c5 c6 c7) (c : Array Value) (t : TypeId) : Blk8 B (w.alloc (.cells c t)) c0 c1 c2 c3 c4 c5 c6 c7 :=
  h.below ((Below.refl _ _).alloc (Nat.le_refl _) _)
theorem LeapP_yes (y : Int) (b : Bool) (hb : Cal.lp y = b) (h : -9999 ≤ y) (h' : y ≤ 9999) (w : World) :
    Calls Try.prog 19 #[.int .i64 y] w fun e w' => e = .returned (.bool b) ∧ w = w' := by
  have HB := Lib.hid hb
  clear hb
  cases b <;> (go_enter Try.func19, Try.ntmps19; go_wp2_with (first | (go_at_call 37; refine (isYear_yes _ h h' _).mono ?_; rintro e w' ⟨rfl, rfl⟩) | (go_at_call 38; refine (leapP _ _ HB.out _).mono ?_; rintro e w' ⟨rfl, rfl⟩)); go_ret; exact ⟨rfl, rfl⟩)
theorem LeapP_no (y : Int) (h : ¬ (-9999 ≤ y ∧ y ≤ 9999)) (w : World) :
    Calls Try.prog 19 #[.int .i64 y] w fun e w' => e = .returned (.bool false) ∧ w = w' := by
  have H := Lib.hid h
  clear h
  go_enter Try.func19, Try.ntmps19
  go_wp2_with (first | (go_at_call 37; refine (isYear_no _ H.out _).mono ?_; rintro e w' ⟨rfl, rfl⟩))
  go_ret
  exact ⟨rfl, rfl⟩
theorem Date_no (y m d : Int) (h : ¬ (1 ≤ d ∧ d ≤ Cal.days y m)) (w : World) :
    Calls Try.prog 17 #[.int .i64 y, .int .i64 m, .int .i64 d] w fun e w' => e = .returned (.tuple #[civ0, .int .i64 2]) ∧ Below w.heap.size w w' := by
  by_cases h1 : 1 ≤ d
  · have h2 : ¬ d ≤ Cal.days y m := by omega
    clear h
    go_enter Try.func17, Try.ntmps17
    go_wp2_with fail
    refine (dayP y m _).mono ?_
    rintro e w1 ⟨rfl, hb⟩
    obtain ⟨hc, hf⟩ := bcell hb
    have hz : w.heap.size < w1.heap.size := by have := hb.size; simp at this; omega
    go_wp2_with fail
    refine bodyPost_ret (v := .tuple #[civ0, .int .i64 2]) ?_ rfl ⟨rfl, ?_⟩
    · simp [results, Try.results17, go_sem, hc, civ0]
    · repeat' (first | (with_reducible exact Below.refl _ _) | (with_reducible refine Below.setCell ?_ ?_ _) | (with_reducible refine Below.alloc ?_ ?_ _) | (with_reducible refine Below.trans ?_ (hb.mono ?_)) | omega | (simp; done) | (simp; omega))
  · clear h
    go_enter Try.func17, Try.ntmps17
    go_wp2_with fail
    refine bodyPost_ret (v := .tuple #[civ0, .int .i64 2]) ?_ rfl ⟨rfl, ?_⟩
    · simp [results, Try.results17, go_sem, civ0]
    · exact (Below.refl _ _).alloc (Nat.le_refl _) _
theorem num_in3 {y m d : Int} (hy : -9999 ≤ y) (hy2 : y ≤ 9999) (hd : 1 ≤ d) (hd2 : d ≤ 31) : -5000000 ≤ Cal.num y m d ∧ Cal.num y m d ≤ 5000000 := by
  have a := CivT.fst_in (y := y) (by omega) (by omega)
  have b := CivT.cum_in y m
  unfold Cal.num; omega
theorem days_in2 {y mo d : Int} (h : 1 ≤ d) (h' : d ≤ Cal.days y mo) : -9999 ≤ y ∧ y ≤ 9999 ∧ 1 ≤ mo ∧ mo ≤ 12 ∧ d ≤ 31 ∧ Cal.valid y mo d := by
  unfold Cal.days at h'
  split at h'
  · have := Cal.dim_pos y mo
    unfold Cal.valid; omega
  · omega
theorem civ_ex (n s : Int) : ∃ c1 c2 c3 c4 c5 c6 c7 c8 : Int, civ n s = .agg #[.int .i64 c1, .int .i64 c2, .int .i64 c3, .int .i64 c4, .int .i64 c5, .int .i64 c6, .int .i64 c7, .int .i64 c8] := ⟨_, _, _, _, _, _, _, _, rfl⟩
theorem Date_yes (y m d : Int) (h1 : 1 ≤ d) (h2 : d ≤ Cal.days y m) (w : World) :
    Calls Try.prog 17 #[.int .i64 y, .int .i64 m, .int .i64 d] w fun e w' => e = .returned (.tuple #[civ (Cal.num y m d) 0, .int .i64 0]) ∧ Below w.heap.size w w' := by
  obtain ⟨k1, k2, k3, k4, k5, k6⟩ := days_in2 h1 h2
  obtain ⟨n1, n2⟩ := num_in3 (m := m) k1 k2 h1 k5
  have tn := (Cal.told_num k6).1
  have T := told_yes (Cal.num y m d) 0 (by omega) (by omega) (by omega) (by omega) (by omega) (by omega)
  clear tn
  obtain ⟨c1, c2, c3, c4, c5, c6, c7, c8, E⟩ := civ_ex (Cal.num y m d) 0
  rw [E] at T
  have HE := Lib.hid E
  clear E
  go_enter Try.func17, Try.ntmps17
  go_wp2_with fail
  have B0 := Blk8.new w (.int .i64 0) (.int .i64 0) (.int .i64 0) (.int .i64 0) (.int .i64 0) (.int .i64 0) (.int .i64 0) (.int .i64 0) 24
  have L0 : Below w.heap.size w (w.alloc (.cells #[.int .i64 0, .int .i64 0, .int .i64 0, .int .i64 0, .int .i64 0, .int .i64 0, .int .i64 0, .int .i64 0] 24)) := (Below.refl _ _).alloc (Nat.le_refl _) _
  refine (dayP y m _).mono ?_
  rintro e w1 ⟨rfl, hb⟩
  have B1 := B0.below hb
  have L1 := L0.trans (hb.mono L0.size)
  clear hb B0 L0
  go_wp2_with fail
  refine (number_any y m d (by omega) (by omega) k3 k4 (by omega) (by omega) _).mono ?_
  rintro e w2 ⟨rfl, k, rfl⟩
  have B2 := B1.drewN k
  have L2 := blw_drewN L1 k
  clear B1 L1
  go_wp2_with fail
  refine (T _).mono ?_
  rintro e w2 ⟨rfl, hb⟩
  obtain ⟨lt, a0, a1, a2, a3, a4, a5, a6, a7, fz⟩ := B2.below hb
  have L3 := L2.trans (hb.mono L2.size)
  clear hb B2 L2
  go_wp2_with fail
  refine bodyPost_ret (v := .tuple #[civ (Cal.num y m d) 0, .int .i64 0]) ?_ rfl ⟨rfl, ?_⟩
  · rw [HE.out]; simp [results, Try.results17, go_sem, a0, a1, a2, a3, a4, a5, a6, a7]
  · repeat' (first | (with_reducible exact L3) | (with_reducible refine Below.setCell ?_ ?_ _) | (simp; done))
theorem refnum (y m d : Int) (hy : -9999 ≤ y) (hy2 : y ≤ 9999) (hm : 1 ≤ m) (hm2 : m ≤ 12) (hd : 1 ≤ d) (hd2 : d ≤ 31) (w : World) :
    Calls Try.prog 40 #[.int .i64 y, .int .i64 m, .int .i64 d] w fun e w' => e = .returned (.int .i64 (Cal.num y m d)) ∧ w = w' := by
  obtain ⟨q1, q2⟩ := CivT.fst_in (y := y) (by omega) (by omega)
  go_enter Try.func40, Try.ntmps40
  go_wp2_with (first | (go_at_call 33; refine (first_any _ (by omega) (by omega) _).mono ?_; rintro e w' ⟨rfl, rfl⟩) | (go_at_call 34; refine (epoch_any _).mono ?_; rintro e w' ⟨rfl, rfl⟩))
  go_loop [7, 8] (fun n k => ∃ j : Int, 1 ≤ j ∧ j ≤ m ∧ k = .int .i64 j ∧ n = .int .i64 (Cal.fst y - 719528 + d - 1 + Cal.cum y j)) (fun _ k => (m - intOf k).toNat)
  case atStart => exact ⟨1, by omega, hm, rfl, int_eq (by rw [cum_one]; omega)⟩
  case round =>
    obtain ⟨j, j1, j2, rfl, rfl⟩ := hrel
    obtain ⟨g1, g2⟩ := CivT.cum_in y j
    by_cases hlt : j < m
    · have cs := Lib.hid (Cal.cum_succ y j j1 (by omega))
      obtain ⟨d1, d2⟩ := Cal.dim_pos y j
      go_wp2_with (go_at_call 18; refine (dayR_yes _ _ hy hy2 j1 (by omega) _).mono ?_; rintro e w' ⟨rfl, rfl⟩)
      go_round
      case rel => exact ⟨j + 1, by omega, by omega, rfl, int_eq (by rw [cs.out]; omega)⟩
      case measure => simp [intOf]; omega
    · obtain rfl : j = m := by omega
      go_wp2_with fail
      go_ret
      exact ⟨ret_int (by unfold Cal.num; omega), rfl⟩
theorem refNum (y m d h mi s wd yd : Int) (hy : -9999 ≤ y) (hy2 : y ≤ 9999) (hm : 1 ≤ m) (hm2 : m ≤ 12) (hd : 1 ≤ d) (hd2 : d ≤ 31) (w : World) :
    Calls Try.prog 21 #[.agg #[.int .i64 y, .int .i64 m, .int .i64 d, .int .i64 h, .int .i64 mi, .int .i64 s, .int .i64 wd, .int .i64 yd]] w fun e w' => e = .returned (.int .i64 (Cal.num y m d)) ∧ Below w.heap.size w w' := by
  go_enter Try.func21, Try.ntmps21
  go_wp2_with (go_at_call 40; refine (refnum _ _ _ hy hy2 hm hm2 hd hd2 _).mono ?_; rintro e w' ⟨rfl, rfl⟩)
  go_ret
  exact ⟨rfl, (Below.refl _ _).alloc (Nat.le_refl _) _⟩
end Go.Proofs.Ytafoodfbjebdcaa
