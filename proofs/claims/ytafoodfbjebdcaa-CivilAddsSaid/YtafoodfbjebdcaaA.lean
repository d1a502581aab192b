/-
  Contracts of civil.split, civil.number and civil.isYear: each returns what the plain calendar says. Conditions: the numbers are within the bounds that each theorem names.
-/
import Derived.Test.YtafoodfbjebdcaaRows
import Derived.Test.YtafoodfbjebdcaaCal
import Derived.WalkKit
import Derived.ProofKit
import Derived.Deep.QuietTactic
import Derived.BigQuiet
import Derived.Lib.Hide
namespace Go.Proofs.Ytafoodfbjebdcaa
open Go.ChangeShapes Go.WideShapes Go.ChangeAt Go.RowKit
theorem ret_pair {a b c d : Value} (h : a = c) (h' : b = d) : Ending.returned (.tuple #[a, b]) = .returned (.tuple #[c, d]) := by rw [h, h']
theorem int_eq {k : IntKind} {a b : Int} (h : a = b) : Value.int k a = .int k b := by rw [h]
theorem tdm (n b : Int) (h0 : n < 0) (_hb : 1 ≤ b) : n.tdiv b = -((-n) / b) ∧ n.tmod b = -((-n) % b) := by
  obtain ⟨k, rfl⟩ : ∃ k, n = -k := ⟨-n, by omega⟩
  rw [Int.neg_tdiv, Int.neg_tmod, Int.neg_neg, Int.tdiv_eq_ediv_of_nonneg (by omega), Int.tmod_eq_emod_of_nonneg (by omega)]
  exact ⟨rfl, rfl⟩
theorem tdm2 (n b : Int) (h0 : n < 0) (hb : 1 ≤ b) : (n.tmod b < 0 → n.tdiv b - 1 = n / b ∧ n.tmod b + b = n % b) ∧ (0 ≤ n.tmod b → n.tdiv b = n / b ∧ n.tmod b = n % b) ∧
    n ≤ n.tdiv b ∧ n.tdiv b ≤ 0 ∧ -b < n.tmod b ∧ n.tmod b ≤ 0 := by
  obtain ⟨e1, e2⟩ := tdm n b h0 hb
  have a1 := Int.emod_nonneg (-n) (show b ≠ 0 by omega)
  have a2 := Int.emod_lt_of_pos (-n) (show 0 < b by omega)
  have a3 := Int.emod_add_mul_ediv (-n) b
  have a4 : 0 ≤ (-n) / b := Int.ediv_nonneg (by omega) (by omega)
  have a5 : (-n) / b ≤ -n := Int.ediv_le_self b (by omega)
  rw [e1, e2]
  generalize (-n) / b = q at *
  generalize (-n) % b = r at *
  refine ⟨fun h => ?_, fun h => ?_, by omega, by omega, by omega, by omega⟩
  · have := (Int.ediv_emod_unique (a := n) (b := b) (r := -r + b) (q := -q - 1) (by omega)).2 ⟨by rw [Int.mul_sub, Int.mul_neg]; omega, by omega, by omega⟩
    exact ⟨this.1.symm, this.2.symm⟩
  · have := (Int.ediv_emod_unique (a := n) (b := b) (r := -r) (q := -q) (by omega)).2 ⟨by rw [Int.mul_neg]; omega, by omega, by omega⟩
    exact ⟨this.1.symm, this.2.symm⟩
theorem split_any (n b : Int) (hb : 1 ≤ b) (hb' : b ≤ 1000000) (hn : -4611686018427387904 ≤ n) (hn' : n ≤ 4611686018427387904) (w : World) :
    Calls Try.prog 31 #[.int .i64 n, .int .i64 b] w fun e w' => e = .returned (.tuple #[.int .i64 (n / b), .int .i64 (n % b)]) ∧ ∃ k, w' = w.drewN k := by
  by_cases h0 : 0 ≤ n
  · have hm := Int.emod_nonneg n (show b ≠ 0 by omega)
    go_enter Try.func31, Try.ntmps31
    go_wp2_with fail
    go_quiet (fail)
    go_wp2_with fail
    go_ret2
    exact ⟨rfl, _, rfl⟩
  · obtain ⟨f1, f2, b1, b2, b3, b4⟩ := tdm2 n b (by omega) hb
    have H1 := Lib.hid f1
    have H2 := Lib.hid f2
    clear f1 f2
    go_enter Try.func31, Try.ntmps31
    go_wp2_with fail
    go_quiet (fail)
    go_wp2_with fail
    · have h : n.tmod b < 0 := by assumption
      go_ret2
      exact ⟨ret_pair (int_eq (H1.out h).1) (int_eq (H1.out h).2), _, rfl⟩
    · have h : 0 ≤ n.tmod b := by assumption
      go_ret2
      exact ⟨ret_pair (int_eq (H2.out h).1) (int_eq (H2.out h).2), _, rfl⟩

theorem ret_int {k : IntKind} {a b : Int} (h : a = b) : Ending.returned (.int k a) = .returned (.int k b) := by rw [h]
theorem number_any (y m d : Int) (hy : -1000000 ≤ y) (hy' : y ≤ 1000000) (hm : 1 ≤ m) (hm' : m ≤ 12) (hd : -1000000000000000 ≤ d) (hd' : d ≤ 1000000000000000) (w : World) :
    Calls Try.prog 36 #[.int .i64 y, .int .i64 m, .int .i64 d] w fun e w' => e = .returned (.int .i64 (Cal.num y m d)) ∧ ∃ k, w' = w.drewN k := by
  have e := Lib.hid (Cal.pnum_eq y m d hm hm')
  by_cases h2 : m ≤ 2
  · have a1 : 0 ≤ (y - 1) % 400 := by omega
    have a2 : (y - 1) % 400 < 400 := by omega
    have a3 : -3000 ≤ (y - 1) / 400 := by omega
    have a4 : (y - 1) / 400 ≤ 3000 := by omega
    go_enter Try.func36, Try.ntmps36
    go_wp2_with (go_at_call 31; refine (split_any _ _ (by omega) (by omega) (by omega) (by omega) _).mono ?_; rintro e w' ⟨rfl, k, rfl⟩)
    go_ret
    exact ⟨ret_int (by rw [← e.out]; unfold Cal.pnum; rw [if_pos h2]; rfl), _, rfl⟩
  · have a1 : 0 ≤ y % 400 := by omega
    have a2 : y % 400 < 400 := by omega
    have a3 : -3000 ≤ y / 400 := by omega
    have a4 : y / 400 ≤ 3000 := by omega
    go_enter Try.func36, Try.ntmps36
    go_wp2_with (go_at_call 31; refine (split_any _ _ (by omega) (by omega) (by omega) (by omega) _).mono ?_; rintro e w' ⟨rfl, k, rfl⟩)
    go_ret
    exact ⟨ret_int (by rw [← e.out]; unfold Cal.pnum; rw [if_neg (by omega)]; rfl), _, rfl⟩
def yrB (y : Int) : Bool := decide (-9999 ≤ y ∧ y ≤ 9999)
theorem isYear_yes (y : Int) (h : -9999 ≤ y) (h' : y ≤ 9999) (w : World) :
    Calls Try.prog 37 #[.int .i64 y] w fun e w' => e = .returned (.bool true) ∧ w = w' := by
  go_enter Try.func37, Try.ntmps37
  go_wp2_with fail
  go_ret
  exact ⟨rfl, rfl⟩
theorem isYear_no (y : Int) (h : ¬ (-9999 ≤ y ∧ y ≤ 9999)) (w : World) :
    Calls Try.prog 37 #[.int .i64 y] w fun e w' => e = .returned (.bool false) ∧ w = w' := by
  by_cases h1 : -9999 ≤ y
  · have h2 : ¬ y ≤ 9999 := by omega
    go_enter Try.func37, Try.ntmps37
    go_wp2_with fail
    go_ret
    exact ⟨rfl, rfl⟩
  · go_enter Try.func37, Try.ntmps37
    go_wp2_with fail
    go_ret
    exact ⟨rfl, rfl⟩
end Go.Proofs.Ytafoodfbjebdcaa
