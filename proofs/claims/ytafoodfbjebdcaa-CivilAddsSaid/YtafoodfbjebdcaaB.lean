/-
  Contract of civil.told: it returns the civil of a day's number and second, or ErrRange beyond the years. Conditions: the bounds that each theorem names.
-/
import Derived.Test.YtafoodfbjebdcaaA
import Derived.WalkKit
import Derived.ProofKit
import Derived.Deep.QuietTactic
import Derived.BigQuiet
import Derived.Lib.Hide
import Derived.Handy
namespace Go.Proofs.Ytafoodfbjebdcaa
open Go.ChangeShapes Go.WideShapes Go.ChangeAt Go.RowKit
theorem bcell {W w1 : World} (hb : Below W.heap.size W w1) : (∀ b o, b < W.heap.size → w1.cell? ⟨b, o, none⟩ = W.cell? ⟨b, o, none⟩) ∧ (∀ b o, b < W.heap.size → w1.frozen? ⟨b, o, none⟩ = W.frozen? ⟨b, o, none⟩) :=
  ⟨fun b o h => hb.cell (p := ⟨b, o, none⟩) h, fun b o h => hb.frozen (p := ⟨b, o, none⟩) h⟩
theorem blw_drewN {B : Nat} {a w : World} (h : Below B a w) (k : Nat) : Below B a (w.drewN k) := ⟨h.os, h.tape, h.output, h.size, h.block⟩
theorem num1_in (y : Int) (h : -9999 ≤ y) (h' : y ≤ 9999) : -10000000 ≤ Cal.num y 1 1 ∧ Cal.num y 1 1 ≤ 10000000 := by
  have : Cal.cum y 1 = 0 := by simp [Cal.cum, Cal.cum0]
  unfold Cal.num Cal.fst; omega
theorem split_era (n : Int) (hn : -1000000000000000 ≤ n) (hn' : n ≤ 1000000000000000) (w : World) :
    Calls Try.prog 31 #[.int .i64 (n + 719468), .int .i64 146097] w fun e w' => e = .returned (.tuple #[.int .i64 (Cal.era n), .int .i64 (Cal.rest n)]) ∧ ∃ k, w' = w.drewN k :=
  split_any _ _ (by omega) (by omega) (by omega) (by omega) _
def civ (n s : Int) : Value := .agg #[.int .i64 (Cal.Year n), .int .i64 (Cal.Month n), .int .i64 (Cal.Day n), .int .i64 (s / 3600), .int .i64 (s / 60 % 60), .int .i64 (s % 60), .int .i64 ((n + 4) % 7), .int .i64 (n - Cal.num (Cal.Year n) 1 1 + 1)]
def civ0 : Value := .agg #[.int .i64 0, .int .i64 0, .int .i64 0, .int .i64 0, .int .i64 0, .int .i64 0, .int .i64 0, .int .i64 0]
set_option maxHeartbeats 1000000 in
theorem told_yes1 (n s : Int) (hn : -1000000000000000 ≤ n) (hn' : n ≤ 1000000000000000) (hs : 0 ≤ s) (hs' : s < 86400)
    (h : -9999 ≤ Cal.Year n) (h' : Cal.Year n ≤ 9999) (h9 : 9 < Cal.mp (Cal.rest n)) (w : World) :
    Calls Try.prog 32 #[.int .i64 n, .int .i64 s] w fun e w' => e = .returned (.tuple #[civ n s, .int .i64 0]) ∧ Below w.heap.size w w' := by
  obtain ⟨r0, r1⟩ := Cal.rest_in n
  obtain ⟨y0, y1⟩ := Cal.yo_in r0 r1
  obtain ⟨d0, d1⟩ := Cal.doy_in r0 r1
  obtain ⟨m0, m1⟩ := Cal.mp_in r0 r1
  have e0 : -10000000000 ≤ Cal.era n := by unfold Cal.era; omega
  have e1 : Cal.era n ≤ 10000000000 := by unfold Cal.era; omega
  have E : Hid (civ n s = .agg #[.int .i64 (Cal.Year n), .int .i64 (Cal.Month n), .int .i64 (Cal.Day n), .int .i64 (s / 3600), .int .i64 (s / 60 % 60), .int .i64 (s % 60), .int .i64 ((n + 4) % 7), .int .i64 (n - Cal.num (Cal.Year n) 1 1 + 1)]) := Lib.hid rfl
  have EY : Cal.Year n = Cal.yo (Cal.rest n) + Cal.era n * 400 + 1 := if_pos h9
  have EM : Cal.Month n = Cal.mp (Cal.rest n) + 3 - 12 := (if_pos h9).trans (by omega)
  have ED : Cal.Day n = Cal.doy (Cal.rest n) - (153 * Cal.mp (Cal.rest n) + 2) / 5 + 1 := rfl
  obtain ⟨q0, q1⟩ := num1_in (Cal.Year n) h h'
  rw [EY] at h h' q0 q1
  rw [EY, EM, ED] at E
  simp only [Cal.mp, Cal.doy, Cal.yo] at y0 y1 d0 d1 m0 m1 h h' h9 E q0 q1
  clear EY EM ED
  go_enter Try.func32, Try.ntmps32
  go_wp2_with fail
  refine (split_era n (by omega) (by omega) _).mono ?_
  rintro e w' ⟨rfl, k, rfl⟩
  go_wp2_with fail
  refine (isYear_yes _ (by omega) (by omega) _).mono ?_
  rintro e w' ⟨rfl, rfl⟩
  go_wp2_with fail
  refine (split_any _ _ (by omega) (by omega) (by omega) (by omega) _).mono ?_
  rintro e w' ⟨rfl, k2, rfl⟩
  go_wp2_with fail
  refine (number_any _ _ _ (by omega) (by omega) (by omega) (by omega) (by omega) (by omega) _).mono ?_
  rintro e w' ⟨rfl, k3, rfl⟩
  go_wp2_with fail
  refine bodyPost_ret (v := .tuple #[civ n s, .int .i64 0]) ?_ rfl ⟨rfl, ?_⟩
  · clear h h' h9 y0 y1 d0 d1 m0 m1 q0 q1; rw [E.out]; simp [results, Try.results32, go_sem]
  · clear h h' h9 y0 y1 d0 d1 m0 m1 q0 q1 E; (repeat' (first | (with_reducible exact Below.refl _ _) | (with_reducible refine Below.alloc ?_ ?_ _) | (with_reducible refine blw_drewN ?_ _) | (with_reducible refine Below.setCell ?_ ?_ _) | (simp; done)))
set_option maxHeartbeats 1000000 in
theorem told_yes2 (n s : Int) (hn : -1000000000000000 ≤ n) (hn' : n ≤ 1000000000000000) (hs : 0 ≤ s) (hs' : s < 86400)
    (h : -9999 ≤ Cal.Year n) (h' : Cal.Year n ≤ 9999) (h9 : ¬ 9 < Cal.mp (Cal.rest n)) (w : World) :
    Calls Try.prog 32 #[.int .i64 n, .int .i64 s] w fun e w' => e = .returned (.tuple #[civ n s, .int .i64 0]) ∧ Below w.heap.size w w' := by
  obtain ⟨r0, r1⟩ := Cal.rest_in n
  obtain ⟨y0, y1⟩ := Cal.yo_in r0 r1
  obtain ⟨d0, d1⟩ := Cal.doy_in r0 r1
  obtain ⟨m0, m1⟩ := Cal.mp_in r0 r1
  have e0 : -10000000000 ≤ Cal.era n := by unfold Cal.era; omega
  have e1 : Cal.era n ≤ 10000000000 := by unfold Cal.era; omega
  have E : Hid (civ n s = .agg #[.int .i64 (Cal.Year n), .int .i64 (Cal.Month n), .int .i64 (Cal.Day n), .int .i64 (s / 3600), .int .i64 (s / 60 % 60), .int .i64 (s % 60), .int .i64 ((n + 4) % 7), .int .i64 (n - Cal.num (Cal.Year n) 1 1 + 1)]) := Lib.hid rfl
  have EY : Cal.Year n = Cal.yo (Cal.rest n) + Cal.era n * 400 := if_neg h9
  have EM : Cal.Month n = Cal.mp (Cal.rest n) + 3 := if_neg h9
  have ED : Cal.Day n = Cal.doy (Cal.rest n) - (153 * Cal.mp (Cal.rest n) + 2) / 5 + 1 := rfl
  obtain ⟨q0, q1⟩ := num1_in (Cal.Year n) h h'
  rw [EY] at h h' q0 q1
  rw [EY, EM, ED] at E
  simp only [Cal.mp, Cal.doy, Cal.yo] at y0 y1 d0 d1 m0 m1 h h' h9 E q0 q1
  clear EY EM ED
  go_enter Try.func32, Try.ntmps32
  go_wp2_with fail
  refine (split_era n (by omega) (by omega) _).mono ?_
  rintro e w' ⟨rfl, k, rfl⟩
  go_wp2_with fail
  refine (isYear_yes _ (by omega) (by omega) _).mono ?_
  rintro e w' ⟨rfl, rfl⟩
  go_wp2_with fail
  refine (split_any _ _ (by omega) (by omega) (by omega) (by omega) _).mono ?_
  rintro e w' ⟨rfl, k2, rfl⟩
  go_wp2_with fail
  refine (number_any _ _ _ (by omega) (by omega) (by omega) (by omega) (by omega) (by omega) _).mono ?_
  rintro e w' ⟨rfl, k3, rfl⟩
  go_wp2_with fail
  refine bodyPost_ret (v := .tuple #[civ n s, .int .i64 0]) ?_ rfl ⟨rfl, ?_⟩
  · clear h h' h9 y0 y1 d0 d1 m0 m1 q0 q1; rw [E.out]; simp [results, Try.results32, go_sem]
  · clear h h' h9 y0 y1 d0 d1 m0 m1 q0 q1 E; (repeat' (first | (with_reducible exact Below.refl _ _) | (with_reducible refine Below.alloc ?_ ?_ _) | (with_reducible refine blw_drewN ?_ _) | (with_reducible refine Below.setCell ?_ ?_ _) | (simp; done)))
set_option maxHeartbeats 1000000 in
theorem told_no1 (n s : Int) (hn : -1000000000000000 ≤ n) (hn' : n ≤ 1000000000000000)
    (h : ¬ (-9999 ≤ Cal.Year n ∧ Cal.Year n ≤ 9999)) (h9 : 9 < Cal.mp (Cal.rest n)) (w : World) :
    Calls Try.prog 32 #[.int .i64 n, .int .i64 s] w fun e w' => e = .returned (.tuple #[civ0, .int .i64 7]) ∧ Below w.heap.size w w' := by
  obtain ⟨r0, r1⟩ := Cal.rest_in n
  obtain ⟨y0, y1⟩ := Cal.yo_in r0 r1
  obtain ⟨d0, d1⟩ := Cal.doy_in r0 r1
  obtain ⟨m0, m1⟩ := Cal.mp_in r0 r1
  have e0 : -10000000000 ≤ Cal.era n := by unfold Cal.era; omega
  have e1 : Cal.era n ≤ 10000000000 := by unfold Cal.era; omega
  have EY : Cal.Year n = Cal.yo (Cal.rest n) + Cal.era n * 400 + 1 := if_pos h9
  rw [EY] at h
  simp only [Cal.mp, Cal.doy, Cal.yo] at y0 y1 d0 d1 m0 m1 h h9
  clear EY
  go_enter Try.func32, Try.ntmps32
  go_wp2_with fail
  refine (split_era n (by omega) (by omega) _).mono ?_
  rintro e w' ⟨rfl, k, rfl⟩
  go_wp2_with fail
  refine (isYear_no _ (by omega) _).mono ?_
  rintro e w' ⟨rfl, rfl⟩
  go_wp2_with fail
  refine bodyPost_ret (v := .tuple #[civ0, .int .i64 7]) ?_ rfl ⟨rfl, ?_⟩
  · clear h h9 y0 y1 d0 d1 m0 m1; simp [results, Try.results32, go_sem, civ0]
  · clear h h9 y0 y1 d0 d1 m0 m1; (repeat' (first | (with_reducible exact Below.refl _ _) | (with_reducible refine Below.alloc ?_ ?_ _) | (with_reducible refine blw_drewN ?_ _) | (with_reducible refine Below.setCell ?_ ?_ _) | (simp; done)))
set_option maxHeartbeats 1000000 in
theorem told_no2 (n s : Int) (hn : -1000000000000000 ≤ n) (hn' : n ≤ 1000000000000000)
    (h : ¬ (-9999 ≤ Cal.Year n ∧ Cal.Year n ≤ 9999)) (h9 : ¬ 9 < Cal.mp (Cal.rest n)) (w : World) :
    Calls Try.prog 32 #[.int .i64 n, .int .i64 s] w fun e w' => e = .returned (.tuple #[civ0, .int .i64 7]) ∧ Below w.heap.size w w' := by
  obtain ⟨r0, r1⟩ := Cal.rest_in n
  obtain ⟨y0, y1⟩ := Cal.yo_in r0 r1
  obtain ⟨d0, d1⟩ := Cal.doy_in r0 r1
  obtain ⟨m0, m1⟩ := Cal.mp_in r0 r1
  have e0 : -10000000000 ≤ Cal.era n := by unfold Cal.era; omega
  have e1 : Cal.era n ≤ 10000000000 := by unfold Cal.era; omega
  have EY : Cal.Year n = Cal.yo (Cal.rest n) + Cal.era n * 400 := if_neg h9
  rw [EY] at h
  simp only [Cal.mp, Cal.doy, Cal.yo] at y0 y1 d0 d1 m0 m1 h h9
  clear EY
  go_enter Try.func32, Try.ntmps32
  go_wp2_with fail
  refine (split_era n (by omega) (by omega) _).mono ?_
  rintro e w' ⟨rfl, k, rfl⟩
  go_wp2_with fail
  refine (isYear_no _ (by omega) _).mono ?_
  rintro e w' ⟨rfl, rfl⟩
  go_wp2_with fail
  refine bodyPost_ret (v := .tuple #[civ0, .int .i64 7]) ?_ rfl ⟨rfl, ?_⟩
  · clear h h9 y0 y1 d0 d1 m0 m1; simp [results, Try.results32, go_sem, civ0]
  · clear h h9 y0 y1 d0 d1 m0 m1; (repeat' (first | (with_reducible exact Below.refl _ _) | (with_reducible refine Below.alloc ?_ ?_ _) | (with_reducible refine blw_drewN ?_ _) | (with_reducible refine Below.setCell ?_ ?_ _) | (simp; done)))
theorem told_yes (n s : Int) (hn : -1000000000000000 ≤ n) (hn' : n ≤ 1000000000000000) (hs : 0 ≤ s) (hs' : s < 86400)
    (h : -9999 ≤ Cal.Year n) (h' : Cal.Year n ≤ 9999) (w : World) :
    Calls Try.prog 32 #[.int .i64 n, .int .i64 s] w fun e w' => e = .returned (.tuple #[civ n s, .int .i64 0]) ∧ Below w.heap.size w w' := by
  by_cases h9 : 9 < Cal.mp (Cal.rest n)
  · exact told_yes1 n s hn hn' hs hs' h h' h9 w
  · exact told_yes2 n s hn hn' hs hs' h h' h9 w
theorem told_no (n s : Int) (hn : -1000000000000000 ≤ n) (hn' : n ≤ 1000000000000000)
    (h : ¬ (-9999 ≤ Cal.Year n ∧ Cal.Year n ≤ 9999)) (w : World) :
    Calls Try.prog 32 #[.int .i64 n, .int .i64 s] w fun e w' => e = .returned (.tuple #[civ0, .int .i64 7]) ∧ Below w.heap.size w w' := by
  by_cases h9 : 9 < Cal.mp (Cal.rest n)
  · exact told_no1 n s hn hn' h h9 w
  · exact told_no2 n s hn hn' h h9 w
end Go.Proofs.Ytafoodfbjebdcaa
