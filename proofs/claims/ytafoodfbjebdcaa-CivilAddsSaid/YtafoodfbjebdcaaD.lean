/-
  Contract of the reference's Of: it returns the civil of a day's number and second, or no. Conditions: the bounds that the theorem names.
-/
import Derived.Test.YtafoodfbjebdcaaC
import Derived.Test.YtafoodfbjebdcaaB
import Derived.WalkKit
import Derived.ProofKit
import Derived.Deep.QuietTactic
import Derived.BigQuiet
import Derived.Deep.LoopGhost
import Derived.Lib.Hide
namespace Go.Proofs.Ytafoodfbjebdcaa
open Go.ChangeShapes Go.WideShapes Go.ChangeAt Go.RowKit
namespace CivT
theorem year_at {day y : Int} (h : Cal.fst y - 719528 ≤ day) (h' : day < Cal.fst (y + 1) - 719528) : Cal.Year day = y := by
  have k := Cal.num_in (Cal.told_ok day).1
  rw [(Cal.told_ok day).2] at k
  rcases Int.lt_trichotomy (Cal.Year day) y with c | c | c
  · have := Cal.fst_mono (show Cal.Year day + 1 ≤ y by omega); omega
  · exact c
  · have := Cal.fst_mono (show y + 1 ≤ Cal.Year day by omega); omega
theorem year_le (day y : Int) : Cal.fst y - 719528 ≤ day ↔ y ≤ Cal.Year day := by
  have k := Cal.num_in (Cal.told_ok day).1
  rw [(Cal.told_ok day).2] at k
  constructor
  · intro h
    rcases Int.lt_or_le (Cal.Year day) y with c | c
    · have := Cal.fst_mono (show Cal.Year day + 1 ≤ y by omega); omega
    · exact c
  · intro h
    have := Cal.fst_mono h; omega
def clamp (day : Int) : Int := if Cal.Year day < -9999 then -10000 else if 9999 < Cal.Year day then 9999 else Cal.Year day
theorem clamp_in (day : Int) : -10000 ≤ clamp day ∧ clamp day ≤ 9999 := by unfold clamp; split <;> (try split) <;> omega
theorem clamp_le (day y : Int) (h : -9999 ≤ y) (h' : y ≤ 9999) : Cal.fst y - 719528 ≤ day ↔ y ≤ clamp day := by
  rw [year_le]; unfold clamp; split <;> (try split) <;> omega
theorem mid_in (a b : Int) (h : 1 < b - a) : a < (a + b).tdiv 2 ∧ (a + b).tdiv 2 < b := by
  by_cases h0 : 0 ≤ a + b
  · rw [Int.tdiv_eq_ediv_of_nonneg h0]; omega
  · rw [(tdm (a + b) 2 (by omega) (by omega)).1]; omega
theorem wk (x : Int) : (x.tmod 7 + 7) % 7 = x % 7 ∧ -7 < x.tmod 7 ∧ x.tmod 7 < 7 := by
  by_cases h0 : 0 ≤ x
  · rw [Int.tmod_eq_emod_of_nonneg h0]; omega
  · rw [(tdm x 7 (by omega) (by omega)).2]; omega
theorem fst_in {y : Int} (h : -10000 ≤ y) (h' : y ≤ 10001) : -4000000 ≤ Cal.fst y ∧ Cal.fst y ≤ 4000000 := by unfold Cal.fst; omega
theorem cum_in (y m : Int) : 0 ≤ Cal.cum y m ∧ Cal.cum y m ≤ 366 := by
  unfold Cal.cum Cal.cum0; repeat' (first | split | omega)
theorem num_one (y : Int) : Cal.num y 1 1 = Cal.fst y - 719528 := by unfold Cal.num; rw [cum_one]; omega
theorem step {y m N : Int} {b : Bool} (hl : Cal.lp y = b) (hN : N < 365 + (if b then 1 else 0)) (m2 : m ≤ 12) (hc : Cal.dim y m ≤ N - Cal.cum y m) : m + 1 ≤ 12 := by
  rcases Int.lt_or_le m 12 with h | h
  · omega
  · obtain rfl : m = 12 := by omega
    cases b <;> simp [Cal.dim, Cal.cum, Cal.cum0, hl] at hc hN <;> omega
theorem fin {day m : Int} (m1 : 1 ≤ m) (m2 : m ≤ 12) (h : Cal.cum (Cal.Year day) m ≤ day - (Cal.fst (Cal.Year day) - 719528)) (hc : ¬ Cal.dim (Cal.Year day) m ≤ day - (Cal.fst (Cal.Year day) - 719528) - Cal.cum (Cal.Year day) m) :
    Cal.Month day = m ∧ Cal.Day day = day - (Cal.fst (Cal.Year day) - 719528) - Cal.cum (Cal.Year day) m + 1 := by
  have v : Cal.valid (Cal.Year day) m (day - (Cal.fst (Cal.Year day) - 719528) - Cal.cum (Cal.Year day) m + 1) := ⟨m1, m2, by omega, by omega⟩
  have e : Cal.num (Cal.Year day) m (day - (Cal.fst (Cal.Year day) - 719528) - Cal.cum (Cal.Year day) m + 1) = day := by unfold Cal.num; omega
  have t := Cal.told_num v
  rw [e] at t
  exact ⟨t.2.1, t.2.2⟩
end CivT
def refOfV (day s : Int) : Value := if -9999 ≤ Cal.Year day ∧ Cal.Year day ≤ 9999 then .tuple #[civ day s, .bool true] else .tuple #[civ0, .bool false]
set_option maxHeartbeats 1000000 in
theorem refOf (day s : Int) (hn : -1000000000000000 ≤ day) (hn' : day ≤ 1000000000000000) (hs : 0 ≤ s) (hs' : s < 86400) (w : World) :
    Calls Try.prog 14 #[.int .i64 day, .int .i64 s] w fun e w' => e = .returned (refOfV day s) ∧ Below w.heap.size w w' := by
  have F := Lib.hid (CivT.clamp_le day)
  obtain ⟨c0, c1⟩ := CivT.clamp_in day
  go_enter Try.func14, Try.ntmps14
  go_wp2_with fail
  go_loop [6, 7] (fun x y => ∃ a b : Int, -10000 ≤ a ∧ a ≤ CivT.clamp day ∧ CivT.clamp day < b ∧ b ≤ 10000 ∧ x = .int .i64 a ∧ y = .int .i64 b) (fun x y => (intOf y - intOf x).toNat)
  case atStart => exact ⟨_, _, by omega, by omega, by omega, by omega, rfl, rfl⟩
  case round =>
    obtain ⟨a, b, h1, h2, h3, h4, rfl, rfl⟩ := hrel
    by_cases hlt : 1 < b - a
    · obtain ⟨t1, t2⟩ := CivT.mid_in a b hlt
      obtain ⟨q1, q2⟩ := CivT.fst_in (y := (a + b).tdiv 2) (by omega) (by omega)
      by_cases hc : Cal.fst ((a + b).tdiv 2) - 719528 ≤ day
      · have hc' := (F.out _ (by omega) (by omega)).1 hc
        go_wp2_with (first | (go_at_call 33; refine (first_any _ (by omega) (by omega) _).mono ?_; rintro e w' ⟨rfl, rfl⟩) | (go_at_call 34; refine (epoch_any _).mono ?_; rintro e w' ⟨rfl, rfl⟩))
        go_round
        case rel => exact ⟨_, b, by omega, by omega, by omega, by omega, rfl, rfl⟩
        case measure => simp [intOf]; omega
      · have hc' : ¬ (a + b).tdiv 2 ≤ CivT.clamp day := fun h => hc ((F.out _ (by omega) (by omega)).2 h)
        go_wp2_with (first | (go_at_call 33; refine (first_any _ (by omega) (by omega) _).mono ?_; rintro e w' ⟨rfl, rfl⟩) | (go_at_call 34; refine (epoch_any _).mono ?_; rintro e w' ⟨rfl, rfl⟩))
        go_round
        case rel => exact ⟨a, _, by omega, by omega, by omega, by omega, rfl, rfl⟩
        case measure => simp [intOf]; omega
    · have ha : a = CivT.clamp day := by omega
      subst ha
      by_cases hy : Cal.Year day < -9999
      · have e1 : CivT.clamp day = -10000 := by unfold CivT.clamp; rw [if_pos hy]
        have e2 := Lib.hid (show refOfV day s = .tuple #[civ0, .bool false] from if_neg (by omega))
        go_wp2_with (first | (go_at_call 15; refine (yrR_no _ (by omega) _).mono ?_; rintro e w' ⟨rfl, rfl⟩))
        refine bodyPost_ret (v := .tuple #[civ0, .bool false]) ?_ rfl ⟨by rw [e2.out], ?_⟩
        · simp [results, Try.results14, go_sem, civ0]
        · exact ((Below.refl _ _).alloc (Nat.le_refl _) _)
      · by_cases hy' : 9999 < Cal.Year day
        · have e1 : CivT.clamp day = 9999 := by unfold CivT.clamp; rw [if_neg (by omega), if_pos hy']
          have e2 := Lib.hid (show refOfV day s = .tuple #[civ0, .bool false] from if_neg (by omega))
          have HL := Lib.hid (show Cal.lp 9999 = false from rfl)
          have k1 := (CivT.year_le day 10000).2 (by omega)
          have k2 : Cal.fst 10000 = Cal.fst 9999 + 365 := rfl
          rw [k2] at k1
          obtain ⟨q1, q2⟩ := CivT.fst_in (y := 9999) (by omega) (by omega)
          clear k2
          rw [e1] at hlt h3 ⊢
          clear e1 c0 c1 h1 h2
          go_wp2_with (first | (go_at_call 33; refine (first_any _ (by omega) (by omega) _).mono ?_; rintro e w' ⟨rfl, rfl⟩) | (go_at_call 34; refine (epoch_any _).mono ?_; rintro e w' ⟨rfl, rfl⟩) | (go_at_call 15; refine (yrR_yes _ (by omega) (by omega) _).mono ?_; rintro e w' ⟨rfl, rfl⟩) | (go_at_call 35; refine (length_any _ _ HL.out _).mono ?_; rintro e w' ⟨rfl, rfl⟩))
          refine bodyPost_ret (v := .tuple #[civ0, .bool false]) ?_ rfl ⟨by rw [e2.out], ?_⟩
          · simp [results, Try.results14, go_sem, civ0]
          · exact ((Below.refl _ _).alloc (Nat.le_refl _) _)
        · have e1 : CivT.clamp day = Cal.Year day := by unfold CivT.clamp; rw [if_neg (by omega), if_neg hy']
          have e2 := Lib.hid (show refOfV day s = .tuple #[civ day s, .bool true] from if_pos (by omega))
          have E := Lib.hid (show civ day s = .agg #[.int .i64 (Cal.Year day), .int .i64 (Cal.Month day), .int .i64 (Cal.Day day), .int .i64 (s / 3600), .int .i64 (s / 60 % 60), .int .i64 (s % 60), .int .i64 ((day + 4) % 7), .int .i64 (day - Cal.num (Cal.Year day) 1 1 + 1)] from rfl)
          have v := Cal.num_in (Cal.told_ok day).1
          rw [(Cal.told_ok day).2] at v
          obtain ⟨v1, v2⟩ := v
          obtain ⟨q1, q2⟩ := CivT.fst_in (y := Cal.Year day) (by omega) (by omega)
          rw [e1] at hlt h3 ⊢
          clear e1 c0 c1 h1 h2
          cases hl : Cal.lp (Cal.Year day)
          all_goals
            rw [Cal.fst_succ, hl] at v2
            simp only [Bool.false_eq_true, if_true, if_false] at v2
            have HL := Lib.hid hl
            clear hl
            go_wp2_with (first | (go_at_call 33; refine (first_any _ (by omega) (by omega) _).mono ?_; rintro e w' ⟨rfl, rfl⟩) | (go_at_call 34; refine (epoch_any _).mono ?_; rintro e w' ⟨rfl, rfl⟩) | (go_at_call 15; refine (yrR_yes _ (by omega) (by omega) _).mono ?_; rintro e w' ⟨rfl, rfl⟩) | (go_at_call 35; refine (length_any _ _ HL.out _).mono ?_; rintro e w' ⟨rfl, rfl⟩))
            go_loopw [10] (fun x wr => ∃ m : Int, 1 ≤ m ∧ m ≤ 12 ∧ Cal.cum (Cal.Year day) m ≤ day - (Cal.fst (Cal.Year day) - 719528) ∧ x = .int .i64 (day - (Cal.fst (Cal.Year day) - 719528) - Cal.cum (Cal.Year day) m) ∧ wr = (w.alloc (.cells #[.int .i64 0, .int .i64 0, .int .i64 0, .int .i64 0, .int .i64 0, .int .i64 0, .int .i64 0, .int .i64 0] 24)).alloc (.cells #[.int .i64 (Cal.Year day), .int .i64 m, .int .i64 0, .int .i64 (s / 3600), .int .i64 (s / 60 % 60), .int .i64 (s % 60), .int .i64 0, .int .i64 (day - (Cal.fst (Cal.Year day) - 719528) + 1)] 24)) (fun x _ => (intOf x).toNat)
            case atStart => exact ⟨1, by omega, by omega, by rw [cum_one]; omega, by rw [cum_one]; simp, rfl⟩
            case round =>
              obtain ⟨m, m1, m2, m3, rfl, rfl⟩ := hrel
              have cs := Cal.cum_succ (Cal.Year day) m m1 m2
              obtain ⟨d1, d2⟩ := Cal.dim_pos (Cal.Year day) m
              obtain ⟨g1, g2⟩ := CivT.cum_in (Cal.Year day) m
              by_cases hc : Cal.dim (Cal.Year day) m ≤ day - (Cal.fst (Cal.Year day) - 719528) - Cal.cum (Cal.Year day) m
              · have CS := Lib.hid cs
                clear cs
                go_wp2_with (go_at_call 18; refine (dayR_yes _ _ (by omega) (by omega) (by omega) (by omega) _).mono ?_; rintro e w' ⟨rfl, rfl⟩)
                go_roundw
                case rel => exact ⟨m + 1, by omega, CivT.step HL.out (by simp only [Bool.false_eq_true, if_true, if_false]; omega) m2 hc, by rw [CS.out]; omega, int_eq (by rw [CS.out]; omega), rfl⟩
                case measure => simp [intOf]; omega
              · obtain ⟨w1, w2, w3⟩ := CivT.wk (day + 4)
                obtain ⟨f1, f2⟩ := CivT.fin m1 m2 m3 hc
                rw [f1, f2, CivT.num_one, ← w1] at E
                clear f1 f2 w1 cs
                go_wp2_with (go_at_call 18; refine (dayR_yes _ _ (by omega) (by omega) (by omega) (by omega) _).mono ?_; rintro e w' ⟨rfl, rfl⟩)
                refine bodyPost_ret (v := .tuple #[civ day s, .bool true]) ?_ rfl ⟨by rw [e2.out], ?_⟩
                · rw [E.out]; simp [results, Try.results14, go_sem]
                · repeat' (first | (with_reducible exact Below.refl _ _) | (with_reducible refine Below.alloc ?_ ?_ _) | (with_reducible refine Below.setCell ?_ ?_ _) | (simp; done))
end Go.Proofs.Ytafoodfbjebdcaa
