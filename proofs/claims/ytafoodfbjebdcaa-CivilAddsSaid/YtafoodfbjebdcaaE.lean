/-
  Contracts of civil.Of and of the law's wakes, for every input.
-/
import Derived.Test.YtafoodfbjebdcaaD
import Derived.WalkKit
import Derived.ProofKit
import Derived.Deep.QuietTactic
import Derived.BigQuiet
import Derived.Lib.Hide
import Derived.WalkLawsBesides
namespace Go.Proofs.Ytafoodfbjebdcaa
open Go.ChangeShapes Go.WideShapes Go.ChangeAt Go.RowKit
def ofV (s o : Int) : Value := if -86399 ≤ o ∧ o ≤ 86399 then (if -1099511627776 ≤ s ∧ s ≤ 1099511627776 then (if -9999 ≤ Cal.Year ((s + o) / 86400) ∧ Cal.Year ((s + o) / 86400) ≤ 9999 then .tuple #[civ ((s + o) / 86400) ((s + o) % 86400), .int .i64 0] else .tuple #[civ0, .int .i64 7]) else .tuple #[civ0, .int .i64 7]) else .tuple #[civ0, .int .i64 2]
theorem Of_arg (s o : Int) (h : ¬ (-86399 ≤ o ∧ o ≤ 86399)) (w : World) :
    Calls Try.prog 12 #[.int .i64 s, .int .i64 o] w fun e w' => e = .returned (.tuple #[civ0, .int .i64 2]) ∧ Below w.heap.size w w' := by
  have H := Lib.hid h
  clear h
  go_enter Try.func12, Try.ntmps12
  go_wp2_with (go_at_call 30; refine (may_no _ H.out _).mono ?_; rintro e w' ⟨rfl, rfl⟩)
  refine bodyPost_ret (v := .tuple #[civ0, .int .i64 2]) ?_ rfl ⟨rfl, ?_⟩
  · simp [results, Try.results12, go_sem, civ0]
  · exact (Below.refl _ _).alloc (Nat.le_refl _) _
theorem Of_range (s o : Int) (h1 : -86399 ≤ o) (h2 : o ≤ 86399) (h : ¬ (-1099511627776 ≤ s ∧ s ≤ 1099511627776)) (w : World) :
    Calls Try.prog 12 #[.int .i64 s, .int .i64 o] w fun e w' => e = .returned (.tuple #[civ0, .int .i64 7]) ∧ Below w.heap.size w w' := by
  by_cases h3 : -1099511627776 ≤ s
  · have h4 : ¬ s ≤ 1099511627776 := by omega
    clear h
    go_enter Try.func12, Try.ntmps12
    go_wp2_with (go_at_call 30; refine (may_yes _ h1 h2 _).mono ?_; rintro e w' ⟨rfl, rfl⟩)
    refine bodyPost_ret (v := .tuple #[civ0, .int .i64 7]) ?_ rfl ⟨rfl, ?_⟩
    · simp [results, Try.results12, go_sem, civ0]
    · exact (Below.refl _ _).alloc (Nat.le_refl _) _
  · have h4 : s ≤ 1099511627776 := by omega
    clear h
    go_enter Try.func12, Try.ntmps12
    go_wp2_with (go_at_call 30; refine (may_yes _ h1 h2 _).mono ?_; rintro e w' ⟨rfl, rfl⟩)
    refine bodyPost_ret (v := .tuple #[civ0, .int .i64 7]) ?_ rfl ⟨rfl, ?_⟩
    · simp [results, Try.results12, go_sem, civ0]
    · exact (Below.refl _ _).alloc (Nat.le_refl _) _
theorem Of_yes (s o : Int) (h1 : -86399 ≤ o) (h2 : o ≤ 86399) (h3 : -1099511627776 ≤ s) (h4 : s ≤ 1099511627776)
    (h5 : -9999 ≤ Cal.Year ((s + o) / 86400)) (h6 : Cal.Year ((s + o) / 86400) ≤ 9999) (w : World) :
    Calls Try.prog 12 #[.int .i64 s, .int .i64 o] w fun e w' => e = .returned (.tuple #[civ ((s + o) / 86400) ((s + o) % 86400), .int .i64 0]) ∧ Below w.heap.size w w' := by
  have E := Lib.hid (show civ ((s + o) / 86400) ((s + o) % 86400) = .agg #[.int .i64 (Cal.Year ((s + o) / 86400)), .int .i64 (Cal.Month ((s + o) / 86400)), .int .i64 (Cal.Day ((s + o) / 86400)), .int .i64 ((s + o) % 86400 / 3600), .int .i64 ((s + o) % 86400 / 60 % 60), .int .i64 ((s + o) % 86400 % 60), .int .i64 (((s + o) / 86400 + 4) % 7), .int .i64 ((s + o) / 86400 - Cal.num (Cal.Year ((s + o) / 86400)) 1 1 + 1)] from rfl)
  go_enter Try.func12, Try.ntmps12
  go_wp2_with (first | (go_at_call 30; refine (may_yes _ h1 h2 _).mono ?_; rintro e w' ⟨rfl, rfl⟩) | (go_at_call 31; refine (split_any _ _ (by omega) (by omega) (by omega) (by omega) _).mono ?_; rintro e w' ⟨rfl, k, rfl⟩))
  refine (told_yes _ _ (by omega) (by omega) (by omega) (by omega) h5 h6 _).mono ?_
  rintro e w' ⟨rfl, hb⟩
  rw [E.out]
  obtain ⟨hc, hf⟩ := bcell hb
  have hz := hb.size
  go_wp2_with fail
  refine bodyPost_ret (v := .tuple #[civ ((s + o) / 86400) ((s + o) % 86400), .int .i64 0]) ?_ rfl ⟨rfl, ?_⟩
  · rw [E.out]; simp [results, Try.results12, go_sem, hc]
  · repeat' (first | (with_reducible exact Below.refl _ _) | (with_reducible refine Below.setCell ?_ ?_ _) | (with_reducible refine Below.alloc ?_ ?_ _) | (with_reducible refine blw_drewN ?_ _) | (with_reducible refine Below.trans ?_ (hb.mono ?_)) | (simp; done) | (simp; omega))
theorem Of_no (s o : Int) (h1 : -86399 ≤ o) (h2 : o ≤ 86399) (h3 : -1099511627776 ≤ s) (h4 : s ≤ 1099511627776)
    (h5 : ¬ (-9999 ≤ Cal.Year ((s + o) / 86400) ∧ Cal.Year ((s + o) / 86400) ≤ 9999)) (w : World) :
    Calls Try.prog 12 #[.int .i64 s, .int .i64 o] w fun e w' => e = .returned (.tuple #[civ0, .int .i64 7]) ∧ Below w.heap.size w w' := by
  have H5 := Lib.hid h5
  clear h5
  go_enter Try.func12, Try.ntmps12
  go_wp2_with (first | (go_at_call 30; refine (may_yes _ h1 h2 _).mono ?_; rintro e w' ⟨rfl, rfl⟩) | (go_at_call 31; refine (split_any _ _ (by omega) (by omega) (by omega) (by omega) _).mono ?_; rintro e w' ⟨rfl, k, rfl⟩))
  refine (told_no _ _ (by omega) (by omega) H5.out _).mono ?_
  rintro e w' ⟨rfl, hb⟩
  unfold civ0
  obtain ⟨hc, hf⟩ := bcell hb
  have hz := hb.size
  go_wp2_with fail
  refine bodyPost_ret (v := .tuple #[civ0, .int .i64 7]) ?_ rfl ⟨rfl, ?_⟩
  · simp [results, Try.results12, go_sem, hc, civ0]
  · repeat' (first | (with_reducible exact Below.refl _ _) | (with_reducible refine Below.setCell ?_ ?_ _) | (with_reducible refine Below.alloc ?_ ?_ _) | (with_reducible refine blw_drewN ?_ _) | (with_reducible refine Below.trans ?_ (hb.mono ?_)) | (simp; done) | (simp; omega))
theorem Of_any (s o : Int) (w : World) :
    Calls Try.prog 12 #[.int .i64 s, .int .i64 o] w fun e w' => e = .returned (ofV s o) ∧ Below w.heap.size w w' := by
  unfold ofV
  by_cases ho : -86399 ≤ o ∧ o ≤ 86399
  · rw [if_pos ho]
    by_cases hs : -1099511627776 ≤ s ∧ s ≤ 1099511627776
    · rw [if_pos hs]
      by_cases hy : -9999 ≤ Cal.Year ((s + o) / 86400) ∧ Cal.Year ((s + o) / 86400) ≤ 9999
      · rw [if_pos hy]; exact Of_yes s o ho.1 ho.2 hs.1 hs.2 hy.1 hy.2 w
      · rw [if_neg hy]; exact Of_no s o ho.1 ho.2 hs.1 hs.2 hy w
    · rw [if_neg hs]; exact Of_range s o ho.1 ho.2 hs w
  · rw [if_neg ho]; exact Of_arg s o ho w
theorem wakes_any (w : World) :
    Calls Try.prog 11 #[] w fun e w' => e = .returned (.bool true) ∧ Below w.heap.size w w' := by
  have E : ofV 951782400 0 = .tuple #[.agg #[.int .i64 2000, .int .i64 2, .int .i64 29, .int .i64 0, .int .i64 0, .int .i64 0, .int .i64 2, .int .i64 60], .int .i64 0] := by kernel_rfl
  have D : Cal.days 1900 2 = 28 := by decide +kernel
  have H := Of_any 951782400 0
  rw [E] at H
  have K := dayP 1900 2
  rw [D] at K
  clear E D
  go_enter Try.func11, Try.ntmps11
  go_wp2_with fail
  refine (H _).mono ?_
  rintro e w1 ⟨rfl, hb⟩
  obtain ⟨hc, hf⟩ := bcell hb
  go_wp2_with fail
  refine (K _).mono ?_
  rintro e w2 ⟨rfl, hb2⟩
  go_wp2_with fail
  go_ret
  exact ⟨rfl, (hb.alloc hb.size _).trans (hb2.mono (by simp; have := hb.size; omega))⟩
end Go.Proofs.Ytafoodfbjebdcaa
