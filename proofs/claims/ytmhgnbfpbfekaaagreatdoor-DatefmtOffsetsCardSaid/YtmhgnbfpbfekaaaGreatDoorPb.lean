/-
  datefmt Offset at letter 120, case by case. Condition: the offset, the letter and the count may be.
-/
import Derived.Test.YtmhgnbfpbfekaaaGreatDoorVj
import Derived.Test.YtmhgnbfpbfekaaaGreatDoorRows
import Derived.WalkKit
import Derived.ProofKit
import Derived.Lib.Hide
import Derived.WalkLawsBesides
import Derived.LoopN
import Derived.Lib.UnsafeStr
set_option linter.unusedVariables false
namespace Go.Proofs.YtmhgnbfpbfekaaaGreatDoor
open Go.RowKit
theorem ret_twoPb {a c : ByteArray} {k : Int} (h : a = c) : Ending.returned (.tuple #[.string a, .int .i64 k]) = .returned (.tuple #[.string c, .int .i64 k]) := by rw [h]
theorem ret_onePb {a c : ByteArray} (h : a = c) : Ending.returned (.string a) = .returned (.string c) := by rw [h]
set_option maxHeartbeats 4000000 in
theorem c120x1ps (m H K M S J : Nat) (hH : H < 60) (hM : M < 60) (hS : S < 60) (hm : m ≤ 86399) (hK : K ≤ 2000) (hJ : J ≤ 4000) (q1 : (m : Int).tdiv 3600 = H) (q2 : (m : Int).tdiv 60 = K) (q3 : (K : Int).tmod 60 = M) (q4 : (m : Int).tmod 60 = S) (q5 : (m : Int).tmod 3600 = J) (q6 : (J : Int).tdiv 60 = M) (hS0 : 0 < S) (hM0 : 0 < M) (w : World) : Calls Tryz.prog 5 #[.int .i64 m, .int .u8 120, .int .i64 1] w fun e w' => e = .returned (.tuple #[.string ⟨#[43, dA H, dB H, dA M, dB M, dA S, dB S]⟩, .int .i64 0]) ∧ Below w.heap.size w w' := by
  have TH := two_yes H hH
  have TM := two_yes M hM
  have TS := two_yes S hS
  have g3 : (0 : Int) < S := by omega
  have g4 : ((S : Int) == 0) = false := beq_eq_false_iff_ne.2 (by omega)
  have g7 : ¬ S = 0 := by omega
  have g5 : ((M : Int) == 0) = false := beq_eq_false_iff_ne.2 (by omega)
  have g8 : ¬ M = 0 := by omega
  have g0 : ¬ (m : Int) < -86399 := by omega
  have g1 : ¬ (86399 : Int) < m := by omega
  have g2 : ¬ (m : Int) < 0 := by omega
  have g6 : ((m : Int) == 0) = false := beq_eq_false_iff_ne.2 (fun h => by rw [h] at q4; simp at q4; omega)
  have r1 : wrap64 (H : Int) = H := by simp only [wrap64]; omega
  have r2 : wrap64 (K : Int) = K := by simp only [wrap64]; omega
  have r4 : wrap64 (J : Int) = J := by simp only [wrap64]; omega
  have r3 : wrap64 (M : Int) = M := by simp only [wrap64]; omega
  clear hH hM hS hm hK hJ hS0 hM0
  go_enter Tryz.func5, Tryz.ntmps5
  go_wp2_with fail
  refine (TH _).mono ?_
  rintro e v0 ⟨rfl, hb0⟩
  go_wp2_with fail
  refine (TM _).mono ?_
  rintro e v1 ⟨rfl, hb1⟩
  have hc1 := hb0.trans (hb1.mono hb0.size)
  clear hb0 hb1
  go_wp2_with fail
  refine (TS _).mono ?_
  rintro e v2 ⟨rfl, hb2⟩
  have hc2 := hc1.trans (hb2.mono hc1.size)
  clear hc1 hb2
  go_wp2_with fail
  go_ret2
  exact ⟨ret_twoPb rfl, hc2⟩
set_option maxHeartbeats 4000000 in
theorem c120x1pt (m H K M S J : Nat) (hH : H < 60) (hM : M < 60) (hS : S < 60) (hm : m ≤ 86399) (hK : K ≤ 2000) (hJ : J ≤ 4000) (q1 : (m : Int).tdiv 3600 = H) (q2 : (m : Int).tdiv 60 = K) (q3 : (K : Int).tmod 60 = 0) (q4 : (m : Int).tmod 60 = S) (q5 : (m : Int).tmod 3600 = J) (q6 : (J : Int).tdiv 60 = 0) (hS0 : 0 < S) (w : World) : Calls Tryz.prog 5 #[.int .i64 m, .int .u8 120, .int .i64 1] w fun e w' => e = .returned (.tuple #[.string ⟨#[43, dA H, dB H, dA 0, dB 0, dA S, dB S]⟩, .int .i64 0]) ∧ Below w.heap.size w w' := by
  have TH := two_yes H hH
  have TM : ∀ w : World, Calls Tryz.prog 9 #[.int .i64 0] w fun e w' => e = .returned (.string ⟨#[dA 0, dB 0]⟩) ∧ Below w.heap.size w w' := two_yes 0 (by decide)
  have TS := two_yes S hS
  have g3 : (0 : Int) < S := by omega
  have g4 : ((S : Int) == 0) = false := beq_eq_false_iff_ne.2 (by omega)
  have g7 : ¬ S = 0 := by omega
  have g0 : ¬ (m : Int) < -86399 := by omega
  have g1 : ¬ (86399 : Int) < m := by omega
  have g2 : ¬ (m : Int) < 0 := by omega
  have g6 : ((m : Int) == 0) = false := beq_eq_false_iff_ne.2 (fun h => by rw [h] at q4; simp at q4; omega)
  have r1 : wrap64 (H : Int) = H := by simp only [wrap64]; omega
  have r2 : wrap64 (K : Int) = K := by simp only [wrap64]; omega
  have r4 : wrap64 (J : Int) = J := by simp only [wrap64]; omega
  clear hH hM hS hm hK hJ hS0
  go_enter Tryz.func5, Tryz.ntmps5
  go_wp2_with fail
  refine (TH _).mono ?_
  rintro e v0 ⟨rfl, hb0⟩
  go_wp2_with fail
  refine (TM _).mono ?_
  rintro e v1 ⟨rfl, hb1⟩
  have hc1 := hb0.trans (hb1.mono hb0.size)
  clear hb0 hb1
  go_wp2_with fail
  refine (TS _).mono ?_
  rintro e v2 ⟨rfl, hb2⟩
  have hc2 := hc1.trans (hb2.mono hc1.size)
  clear hc1 hb2
  go_wp2_with fail
  go_ret2
  exact ⟨ret_twoPb rfl, hc2⟩
set_option maxHeartbeats 4000000 in
theorem c120x1pm (m H K M S J : Nat) (hH : H < 60) (hM : M < 60) (hS : S < 60) (hm : m ≤ 86399) (hK : K ≤ 2000) (hJ : J ≤ 4000) (q1 : (m : Int).tdiv 3600 = H) (q2 : (m : Int).tdiv 60 = K) (q3 : (K : Int).tmod 60 = M) (q4 : (m : Int).tmod 60 = 0) (q5 : (m : Int).tmod 3600 = J) (q6 : (J : Int).tdiv 60 = M) (hM0 : 0 < M) (w : World) : Calls Tryz.prog 5 #[.int .i64 m, .int .u8 120, .int .i64 1] w fun e w' => e = .returned (.tuple #[.string ⟨#[43, dA H, dB H, dA M, dB M]⟩, .int .i64 0]) ∧ Below w.heap.size w w' := by
  have TH := two_yes H hH
  have TM := two_yes M hM
  have g5 : ((M : Int) == 0) = false := beq_eq_false_iff_ne.2 (by omega)
  have g8 : ¬ M = 0 := by omega
  have g0 : ¬ (m : Int) < -86399 := by omega
  have g1 : ¬ (86399 : Int) < m := by omega
  have g2 : ¬ (m : Int) < 0 := by omega
  have g6 : ((m : Int) == 0) = false := beq_eq_false_iff_ne.2 (fun h => by rw [h] at q2; simp at q2; rw [← q2] at q3; simp at q3; omega)
  have r1 : wrap64 (H : Int) = H := by simp only [wrap64]; omega
  have r2 : wrap64 (K : Int) = K := by simp only [wrap64]; omega
  have r4 : wrap64 (J : Int) = J := by simp only [wrap64]; omega
  have r3 : wrap64 (M : Int) = M := by simp only [wrap64]; omega
  clear hH hM hS hm hK hJ hM0
  go_enter Tryz.func5, Tryz.ntmps5
  go_wp2_with fail
  refine (TH _).mono ?_
  rintro e v0 ⟨rfl, hb0⟩
  go_wp2_with fail
  refine (TM _).mono ?_
  rintro e v1 ⟨rfl, hb1⟩
  have hc1 := hb0.trans (hb1.mono hb0.size)
  clear hb0 hb1
  go_wp2_with fail
  go_ret2
  exact ⟨ret_twoPb rfl, hc1⟩
set_option maxHeartbeats 4000000 in
theorem c120x1ph (m H K M S J : Nat) (hH : H < 60) (hM : M < 60) (hS : S < 60) (hm : m ≤ 86399) (hK : K ≤ 2000) (hJ : J ≤ 4000) (q1 : (m : Int).tdiv 3600 = H) (q2 : (m : Int).tdiv 60 = K) (q3 : (K : Int).tmod 60 = 0) (q4 : (m : Int).tmod 60 = 0) (q5 : (m : Int).tmod 3600 = J) (q6 : (J : Int).tdiv 60 = 0) (hp : 0 < m) (w : World) : Calls Tryz.prog 5 #[.int .i64 m, .int .u8 120, .int .i64 1] w fun e w' => e = .returned (.tuple #[.string ⟨#[43, dA H, dB H]⟩, .int .i64 0]) ∧ Below w.heap.size w w' := by
  have TH := two_yes H hH
  have TM : ∀ w : World, Calls Tryz.prog 9 #[.int .i64 0] w fun e w' => e = .returned (.string ⟨#[dA 0, dB 0]⟩) ∧ Below w.heap.size w w' := two_yes 0 (by decide)
  have g0 : ¬ (m : Int) < -86399 := by omega
  have g1 : ¬ (86399 : Int) < m := by omega
  have g2 : ¬ (m : Int) < 0 := by omega
  have g6 : ((m : Int) == 0) = false := beq_eq_false_iff_ne.2 (by omega)
  have r1 : wrap64 (H : Int) = H := by simp only [wrap64]; omega
  have r2 : wrap64 (K : Int) = K := by simp only [wrap64]; omega
  have r4 : wrap64 (J : Int) = J := by simp only [wrap64]; omega
  clear hH hM hS hm hK hJ hp
  go_enter Tryz.func5, Tryz.ntmps5
  go_wp2_with fail
  refine (TH _).mono ?_
  rintro e v0 ⟨rfl, hb0⟩
  go_wp2_with fail
  refine (TM _).mono ?_
  rintro e v1 ⟨rfl, hb1⟩
  have hc1 := hb0.trans (hb1.mono hb0.size)
  clear hb0 hb1
  go_wp2_with fail
  refine (TH _).mono ?_
  rintro e v2 ⟨rfl, hb2⟩
  have hc2 := hc1.trans (hb2.mono hc1.size)
  clear hc1 hb2
  go_wp2_with fail
  go_ret2
  exact ⟨ret_twoPb rfl, hc2⟩
set_option maxHeartbeats 4000000 in
theorem c120x1pz  (w : World) : Calls Tryz.prog 5 #[.int .i64 0, .int .u8 120, .int .i64 1] w fun e w' => e = .returned (.tuple #[.string ⟨#[43, dA 0, dB 0]⟩, .int .i64 0]) ∧ Below w.heap.size w w' := by
  have TH : ∀ w : World, Calls Tryz.prog 9 #[.int .i64 0] w fun e w' => e = .returned (.string ⟨#[dA 0, dB 0]⟩) ∧ Below w.heap.size w w' := two_yes 0 (by decide)
  have TM := TH
  go_enter Tryz.func5, Tryz.ntmps5
  go_wp2_with fail
  refine (TH _).mono ?_
  rintro e v0 ⟨rfl, hb0⟩
  go_wp2_with fail
  refine (TM _).mono ?_
  rintro e v1 ⟨rfl, hb1⟩
  have hc1 := hb0.trans (hb1.mono hb0.size)
  clear hb0 hb1
  go_wp2_with fail
  refine (TH _).mono ?_
  rintro e v2 ⟨rfl, hb2⟩
  have hc2 := hc1.trans (hb2.mono hc1.size)
  clear hc1 hb2
  go_wp2_with fail
  go_ret2
  exact ⟨ret_twoPb rfl, hc2⟩
set_option maxHeartbeats 4000000 in
theorem c120x1ns (m H K M S J : Nat) (hH : H < 60) (hM : M < 60) (hS : S < 60) (hm : m ≤ 86399) (hK : K ≤ 2000) (hJ : J ≤ 4000) (q1 : (m : Int).tdiv 3600 = H) (q2 : (m : Int).tdiv 60 = K) (q3 : (K : Int).tmod 60 = M) (q4 : (m : Int).tmod 60 = S) (q5 : (m : Int).tmod 3600 = J) (q6 : (J : Int).tdiv 60 = M) (hS0 : 0 < S) (hM0 : 0 < M) (hp : 0 < m) (o : Int) (ho : o = -(m : Int)) (w : World) : Calls Tryz.prog 5 #[.int .i64 o, .int .u8 120, .int .i64 1] w fun e w' => e = .returned (.tuple #[.string ⟨#[45, dA H, dB H, dA M, dB M, dA S, dB S]⟩, .int .i64 0]) ∧ Below w.heap.size w w' := by
  have TH := two_yes H hH
  have TM := two_yes M hM
  have TS := two_yes S hS
  have g3 : (0 : Int) < S := by omega
  have g4 : ((S : Int) == 0) = false := beq_eq_false_iff_ne.2 (by omega)
  have g7 : ¬ S = 0 := by omega
  have g5 : ((M : Int) == 0) = false := beq_eq_false_iff_ne.2 (by omega)
  have g8 : ¬ M = 0 := by omega
  have g0 : ¬ o < -86399 := by omega
  have g1 : ¬ (86399 : Int) < o := by omega
  have g2 : o < 0 := by omega
  have g6 : (o == 0) = false := beq_eq_false_iff_ne.2 (by omega)
  have n1 : o.tdiv 3600 = -(H : Int) := by rw [ho, Int.neg_tdiv, q1]
  have n2 : o.tdiv 60 = -(K : Int) := by rw [ho, Int.neg_tdiv, q2]
  have n4 : o.tmod 3600 = -(J : Int) := by rw [ho, Int.neg_tmod, q5]
  have n3 : o.tmod 60 = -(S : Int) := by rw [ho, Int.neg_tmod, q4]
  have r1 : wrap64 (H : Int) = H := by simp only [wrap64]; omega
  have r2 : wrap64 (K : Int) = K := by simp only [wrap64]; omega
  have r4 : wrap64 (J : Int) = J := by simp only [wrap64]; omega
  have r3 : wrap64 (M : Int) = M := by simp only [wrap64]; omega
  clear hH hM hS hm hK hJ hS0 hM0 hp ho
  go_enter Tryz.func5, Tryz.ntmps5
  go_wp2_with fail
  refine (TH _).mono ?_
  rintro e v0 ⟨rfl, hb0⟩
  go_wp2_with fail
  refine (TM _).mono ?_
  rintro e v1 ⟨rfl, hb1⟩
  have hc1 := hb0.trans (hb1.mono hb0.size)
  clear hb0 hb1
  go_wp2_with fail
  refine (TS _).mono ?_
  rintro e v2 ⟨rfl, hb2⟩
  have hc2 := hc1.trans (hb2.mono hc1.size)
  clear hc1 hb2
  go_wp2_with fail
  go_ret2
  exact ⟨ret_twoPb rfl, hc2⟩
set_option maxHeartbeats 4000000 in
theorem c120x1nt (m H K M S J : Nat) (hH : H < 60) (hM : M < 60) (hS : S < 60) (hm : m ≤ 86399) (hK : K ≤ 2000) (hJ : J ≤ 4000) (q1 : (m : Int).tdiv 3600 = H) (q2 : (m : Int).tdiv 60 = K) (q3 : (K : Int).tmod 60 = 0) (q4 : (m : Int).tmod 60 = S) (q5 : (m : Int).tmod 3600 = J) (q6 : (J : Int).tdiv 60 = 0) (hS0 : 0 < S) (hp : 0 < m) (o : Int) (ho : o = -(m : Int)) (w : World) : Calls Tryz.prog 5 #[.int .i64 o, .int .u8 120, .int .i64 1] w fun e w' => e = .returned (.tuple #[.string ⟨#[45, dA H, dB H, dA 0, dB 0, dA S, dB S]⟩, .int .i64 0]) ∧ Below w.heap.size w w' := by
  have TH := two_yes H hH
  have TM : ∀ w : World, Calls Tryz.prog 9 #[.int .i64 0] w fun e w' => e = .returned (.string ⟨#[dA 0, dB 0]⟩) ∧ Below w.heap.size w w' := two_yes 0 (by decide)
  have TS := two_yes S hS
  have g3 : (0 : Int) < S := by omega
  have g4 : ((S : Int) == 0) = false := beq_eq_false_iff_ne.2 (by omega)
  have g7 : ¬ S = 0 := by omega
  have g0 : ¬ o < -86399 := by omega
  have g1 : ¬ (86399 : Int) < o := by omega
  have g2 : o < 0 := by omega
  have g6 : (o == 0) = false := beq_eq_false_iff_ne.2 (by omega)
  have n1 : o.tdiv 3600 = -(H : Int) := by rw [ho, Int.neg_tdiv, q1]
  have n2 : o.tdiv 60 = -(K : Int) := by rw [ho, Int.neg_tdiv, q2]
  have n4 : o.tmod 3600 = -(J : Int) := by rw [ho, Int.neg_tmod, q5]
  have n3 : o.tmod 60 = -(S : Int) := by rw [ho, Int.neg_tmod, q4]
  have r1 : wrap64 (H : Int) = H := by simp only [wrap64]; omega
  have r2 : wrap64 (K : Int) = K := by simp only [wrap64]; omega
  have r4 : wrap64 (J : Int) = J := by simp only [wrap64]; omega
  clear hH hM hS hm hK hJ hS0 hp ho
  go_enter Tryz.func5, Tryz.ntmps5
  go_wp2_with fail
  refine (TH _).mono ?_
  rintro e v0 ⟨rfl, hb0⟩
  go_wp2_with fail
  refine (TM _).mono ?_
  rintro e v1 ⟨rfl, hb1⟩
  have hc1 := hb0.trans (hb1.mono hb0.size)
  clear hb0 hb1
  go_wp2_with fail
  refine (TS _).mono ?_
  rintro e v2 ⟨rfl, hb2⟩
  have hc2 := hc1.trans (hb2.mono hc1.size)
  clear hc1 hb2
  go_wp2_with fail
  go_ret2
  exact ⟨ret_twoPb rfl, hc2⟩
set_option maxHeartbeats 4000000 in
theorem c120x1nm (m H K M S J : Nat) (hH : H < 60) (hM : M < 60) (hS : S < 60) (hm : m ≤ 86399) (hK : K ≤ 2000) (hJ : J ≤ 4000) (q1 : (m : Int).tdiv 3600 = H) (q2 : (m : Int).tdiv 60 = K) (q3 : (K : Int).tmod 60 = M) (q4 : (m : Int).tmod 60 = 0) (q5 : (m : Int).tmod 3600 = J) (q6 : (J : Int).tdiv 60 = M) (hM0 : 0 < M) (hp : 0 < m) (o : Int) (ho : o = -(m : Int)) (w : World) : Calls Tryz.prog 5 #[.int .i64 o, .int .u8 120, .int .i64 1] w fun e w' => e = .returned (.tuple #[.string ⟨#[45, dA H, dB H, dA M, dB M]⟩, .int .i64 0]) ∧ Below w.heap.size w w' := by
  have TH := two_yes H hH
  have TM := two_yes M hM
  have g5 : ((M : Int) == 0) = false := beq_eq_false_iff_ne.2 (by omega)
  have g8 : ¬ M = 0 := by omega
  have g0 : ¬ o < -86399 := by omega
  have g1 : ¬ (86399 : Int) < o := by omega
  have g2 : o < 0 := by omega
  have g6 : (o == 0) = false := beq_eq_false_iff_ne.2 (by omega)
  have n1 : o.tdiv 3600 = -(H : Int) := by rw [ho, Int.neg_tdiv, q1]
  have n2 : o.tdiv 60 = -(K : Int) := by rw [ho, Int.neg_tdiv, q2]
  have n4 : o.tmod 3600 = -(J : Int) := by rw [ho, Int.neg_tmod, q5]
  have n3 : o.tmod 60 = 0 := by rw [ho, Int.neg_tmod, q4]; rfl
  have r1 : wrap64 (H : Int) = H := by simp only [wrap64]; omega
  have r2 : wrap64 (K : Int) = K := by simp only [wrap64]; omega
  have r4 : wrap64 (J : Int) = J := by simp only [wrap64]; omega
  have r3 : wrap64 (M : Int) = M := by simp only [wrap64]; omega
  clear hH hM hS hm hK hJ hM0 hp ho
  go_enter Tryz.func5, Tryz.ntmps5
  go_wp2_with fail
  refine (TH _).mono ?_
  rintro e v0 ⟨rfl, hb0⟩
  go_wp2_with fail
  refine (TM _).mono ?_
  rintro e v1 ⟨rfl, hb1⟩
  have hc1 := hb0.trans (hb1.mono hb0.size)
  clear hb0 hb1
  go_wp2_with fail
  go_ret2
  exact ⟨ret_twoPb rfl, hc1⟩
set_option maxHeartbeats 4000000 in
theorem c120x1nh (m H K M S J : Nat) (hH : H < 60) (hM : M < 60) (hS : S < 60) (hm : m ≤ 86399) (hK : K ≤ 2000) (hJ : J ≤ 4000) (q1 : (m : Int).tdiv 3600 = H) (q2 : (m : Int).tdiv 60 = K) (q3 : (K : Int).tmod 60 = 0) (q4 : (m : Int).tmod 60 = 0) (q5 : (m : Int).tmod 3600 = J) (q6 : (J : Int).tdiv 60 = 0) (hp : 0 < m) (o : Int) (ho : o = -(m : Int)) (w : World) : Calls Tryz.prog 5 #[.int .i64 o, .int .u8 120, .int .i64 1] w fun e w' => e = .returned (.tuple #[.string ⟨#[45, dA H, dB H]⟩, .int .i64 0]) ∧ Below w.heap.size w w' := by
  have TH := two_yes H hH
  have TM : ∀ w : World, Calls Tryz.prog 9 #[.int .i64 0] w fun e w' => e = .returned (.string ⟨#[dA 0, dB 0]⟩) ∧ Below w.heap.size w w' := two_yes 0 (by decide)
  have g0 : ¬ o < -86399 := by omega
  have g1 : ¬ (86399 : Int) < o := by omega
  have g2 : o < 0 := by omega
  have g6 : (o == 0) = false := beq_eq_false_iff_ne.2 (by omega)
  have n1 : o.tdiv 3600 = -(H : Int) := by rw [ho, Int.neg_tdiv, q1]
  have n2 : o.tdiv 60 = -(K : Int) := by rw [ho, Int.neg_tdiv, q2]
  have n4 : o.tmod 3600 = -(J : Int) := by rw [ho, Int.neg_tmod, q5]
  have n3 : o.tmod 60 = 0 := by rw [ho, Int.neg_tmod, q4]; rfl
  have r1 : wrap64 (H : Int) = H := by simp only [wrap64]; omega
  have r2 : wrap64 (K : Int) = K := by simp only [wrap64]; omega
  have r4 : wrap64 (J : Int) = J := by simp only [wrap64]; omega
  clear hH hM hS hm hK hJ hp ho
  go_enter Tryz.func5, Tryz.ntmps5
  go_wp2_with fail
  refine (TH _).mono ?_
  rintro e v0 ⟨rfl, hb0⟩
  go_wp2_with fail
  refine (TM _).mono ?_
  rintro e v1 ⟨rfl, hb1⟩
  have hc1 := hb0.trans (hb1.mono hb0.size)
  clear hb0 hb1
  go_wp2_with fail
  refine (TH _).mono ?_
  rintro e v2 ⟨rfl, hb2⟩
  have hc2 := hc1.trans (hb2.mono hc1.size)
  clear hc1 hb2
  go_wp2_with fail
  go_ret2
  exact ⟨ret_twoPb rfl, hc2⟩
set_option maxHeartbeats 4000000 in
theorem c120x2ps (m H K M S J : Nat) (hH : H < 60) (hM : M < 60) (hS : S < 60) (hm : m ≤ 86399) (hK : K ≤ 2000) (hJ : J ≤ 4000) (q1 : (m : Int).tdiv 3600 = H) (q2 : (m : Int).tdiv 60 = K) (q3 : (K : Int).tmod 60 = M) (q4 : (m : Int).tmod 60 = S) (q5 : (m : Int).tmod 3600 = J) (q6 : (J : Int).tdiv 60 = M) (hS0 : 0 < S) (hM0 : 0 < M) (w : World) : Calls Tryz.prog 5 #[.int .i64 m, .int .u8 120, .int .i64 2] w fun e w' => e = .returned (.tuple #[.string ⟨#[43, dA H, dB H, dA M, dB M, dA S, dB S]⟩, .int .i64 0]) ∧ Below w.heap.size w w' := by
  have TH := two_yes H hH
  have TM := two_yes M hM
  have TS := two_yes S hS
  have g3 : (0 : Int) < S := by omega
  have g4 : ((S : Int) == 0) = false := beq_eq_false_iff_ne.2 (by omega)
  have g7 : ¬ S = 0 := by omega
  have g5 : ((M : Int) == 0) = false := beq_eq_false_iff_ne.2 (by omega)
  have g8 : ¬ M = 0 := by omega
  have g0 : ¬ (m : Int) < -86399 := by omega
  have g1 : ¬ (86399 : Int) < m := by omega
  have g2 : ¬ (m : Int) < 0 := by omega
  have g6 : ((m : Int) == 0) = false := beq_eq_false_iff_ne.2 (fun h => by rw [h] at q4; simp at q4; omega)
  have r1 : wrap64 (H : Int) = H := by simp only [wrap64]; omega
  have r2 : wrap64 (K : Int) = K := by simp only [wrap64]; omega
  have r4 : wrap64 (J : Int) = J := by simp only [wrap64]; omega
  have r3 : wrap64 (M : Int) = M := by simp only [wrap64]; omega
  clear hH hM hS hm hK hJ hS0 hM0
  go_enter Tryz.func5, Tryz.ntmps5
  go_wp2_with fail
  refine (TH _).mono ?_
  rintro e v0 ⟨rfl, hb0⟩
  go_wp2_with fail
  refine (TM _).mono ?_
  rintro e v1 ⟨rfl, hb1⟩
  have hc1 := hb0.trans (hb1.mono hb0.size)
  clear hb0 hb1
  go_wp2_with fail
  refine (TS _).mono ?_
  rintro e v2 ⟨rfl, hb2⟩
  have hc2 := hc1.trans (hb2.mono hc1.size)
  clear hc1 hb2
  go_wp2_with fail
  go_ret2
  exact ⟨ret_twoPb rfl, hc2⟩
set_option maxHeartbeats 4000000 in
theorem c120x2pt (m H K M S J : Nat) (hH : H < 60) (hM : M < 60) (hS : S < 60) (hm : m ≤ 86399) (hK : K ≤ 2000) (hJ : J ≤ 4000) (q1 : (m : Int).tdiv 3600 = H) (q2 : (m : Int).tdiv 60 = K) (q3 : (K : Int).tmod 60 = 0) (q4 : (m : Int).tmod 60 = S) (q5 : (m : Int).tmod 3600 = J) (q6 : (J : Int).tdiv 60 = 0) (hS0 : 0 < S) (w : World) : Calls Tryz.prog 5 #[.int .i64 m, .int .u8 120, .int .i64 2] w fun e w' => e = .returned (.tuple #[.string ⟨#[43, dA H, dB H, dA 0, dB 0, dA S, dB S]⟩, .int .i64 0]) ∧ Below w.heap.size w w' := by
  have TH := two_yes H hH
  have TM : ∀ w : World, Calls Tryz.prog 9 #[.int .i64 0] w fun e w' => e = .returned (.string ⟨#[dA 0, dB 0]⟩) ∧ Below w.heap.size w w' := two_yes 0 (by decide)
  have TS := two_yes S hS
  have g3 : (0 : Int) < S := by omega
  have g4 : ((S : Int) == 0) = false := beq_eq_false_iff_ne.2 (by omega)
  have g7 : ¬ S = 0 := by omega
  have g0 : ¬ (m : Int) < -86399 := by omega
  have g1 : ¬ (86399 : Int) < m := by omega
  have g2 : ¬ (m : Int) < 0 := by omega
  have g6 : ((m : Int) == 0) = false := beq_eq_false_iff_ne.2 (fun h => by rw [h] at q4; simp at q4; omega)
  have r1 : wrap64 (H : Int) = H := by simp only [wrap64]; omega
  have r2 : wrap64 (K : Int) = K := by simp only [wrap64]; omega
  have r4 : wrap64 (J : Int) = J := by simp only [wrap64]; omega
  clear hH hM hS hm hK hJ hS0
  go_enter Tryz.func5, Tryz.ntmps5
  go_wp2_with fail
  refine (TH _).mono ?_
  rintro e v0 ⟨rfl, hb0⟩
  go_wp2_with fail
  refine (TM _).mono ?_
  rintro e v1 ⟨rfl, hb1⟩
  have hc1 := hb0.trans (hb1.mono hb0.size)
  clear hb0 hb1
  go_wp2_with fail
  refine (TS _).mono ?_
  rintro e v2 ⟨rfl, hb2⟩
  have hc2 := hc1.trans (hb2.mono hc1.size)
  clear hc1 hb2
  go_wp2_with fail
  go_ret2
  exact ⟨ret_twoPb rfl, hc2⟩
set_option maxHeartbeats 4000000 in
theorem c120x2pm (m H K M S J : Nat) (hH : H < 60) (hM : M < 60) (hS : S < 60) (hm : m ≤ 86399) (hK : K ≤ 2000) (hJ : J ≤ 4000) (q1 : (m : Int).tdiv 3600 = H) (q2 : (m : Int).tdiv 60 = K) (q3 : (K : Int).tmod 60 = M) (q4 : (m : Int).tmod 60 = 0) (q5 : (m : Int).tmod 3600 = J) (q6 : (J : Int).tdiv 60 = M) (hM0 : 0 < M) (w : World) : Calls Tryz.prog 5 #[.int .i64 m, .int .u8 120, .int .i64 2] w fun e w' => e = .returned (.tuple #[.string ⟨#[43, dA H, dB H, dA M, dB M]⟩, .int .i64 0]) ∧ Below w.heap.size w w' := by
  have TH := two_yes H hH
  have TM := two_yes M hM
  have g5 : ((M : Int) == 0) = false := beq_eq_false_iff_ne.2 (by omega)
  have g8 : ¬ M = 0 := by omega
  have g0 : ¬ (m : Int) < -86399 := by omega
  have g1 : ¬ (86399 : Int) < m := by omega
  have g2 : ¬ (m : Int) < 0 := by omega
  have g6 : ((m : Int) == 0) = false := beq_eq_false_iff_ne.2 (fun h => by rw [h] at q2; simp at q2; rw [← q2] at q3; simp at q3; omega)
  have r1 : wrap64 (H : Int) = H := by simp only [wrap64]; omega
  have r2 : wrap64 (K : Int) = K := by simp only [wrap64]; omega
  have r4 : wrap64 (J : Int) = J := by simp only [wrap64]; omega
  have r3 : wrap64 (M : Int) = M := by simp only [wrap64]; omega
  clear hH hM hS hm hK hJ hM0
  go_enter Tryz.func5, Tryz.ntmps5
  go_wp2_with fail
  refine (TH _).mono ?_
  rintro e v0 ⟨rfl, hb0⟩
  go_wp2_with fail
  refine (TM _).mono ?_
  rintro e v1 ⟨rfl, hb1⟩
  have hc1 := hb0.trans (hb1.mono hb0.size)
  clear hb0 hb1
  go_wp2_with fail
  go_ret2
  exact ⟨ret_twoPb rfl, hc1⟩
set_option maxHeartbeats 4000000 in
theorem c120x2ph (m H K M S J : Nat) (hH : H < 60) (hM : M < 60) (hS : S < 60) (hm : m ≤ 86399) (hK : K ≤ 2000) (hJ : J ≤ 4000) (q1 : (m : Int).tdiv 3600 = H) (q2 : (m : Int).tdiv 60 = K) (q3 : (K : Int).tmod 60 = 0) (q4 : (m : Int).tmod 60 = 0) (q5 : (m : Int).tmod 3600 = J) (q6 : (J : Int).tdiv 60 = 0) (hp : 0 < m) (w : World) : Calls Tryz.prog 5 #[.int .i64 m, .int .u8 120, .int .i64 2] w fun e w' => e = .returned (.tuple #[.string ⟨#[43, dA H, dB H, dA 0, dB 0]⟩, .int .i64 0]) ∧ Below w.heap.size w w' := by
  have TH := two_yes H hH
  have TM : ∀ w : World, Calls Tryz.prog 9 #[.int .i64 0] w fun e w' => e = .returned (.string ⟨#[dA 0, dB 0]⟩) ∧ Below w.heap.size w w' := two_yes 0 (by decide)
  have g0 : ¬ (m : Int) < -86399 := by omega
  have g1 : ¬ (86399 : Int) < m := by omega
  have g2 : ¬ (m : Int) < 0 := by omega
  have g6 : ((m : Int) == 0) = false := beq_eq_false_iff_ne.2 (by omega)
  have r1 : wrap64 (H : Int) = H := by simp only [wrap64]; omega
  have r2 : wrap64 (K : Int) = K := by simp only [wrap64]; omega
  have r4 : wrap64 (J : Int) = J := by simp only [wrap64]; omega
  clear hH hM hS hm hK hJ hp
  go_enter Tryz.func5, Tryz.ntmps5
  go_wp2_with fail
  refine (TH _).mono ?_
  rintro e v0 ⟨rfl, hb0⟩
  go_wp2_with fail
  refine (TM _).mono ?_
  rintro e v1 ⟨rfl, hb1⟩
  have hc1 := hb0.trans (hb1.mono hb0.size)
  clear hb0 hb1
  go_wp2_with fail
  go_ret2
  exact ⟨ret_twoPb rfl, hc1⟩
set_option maxHeartbeats 4000000 in
theorem c120x2pz  (w : World) : Calls Tryz.prog 5 #[.int .i64 0, .int .u8 120, .int .i64 2] w fun e w' => e = .returned (.tuple #[.string ⟨#[43, dA 0, dB 0, dA 0, dB 0]⟩, .int .i64 0]) ∧ Below w.heap.size w w' := by
  have TH : ∀ w : World, Calls Tryz.prog 9 #[.int .i64 0] w fun e w' => e = .returned (.string ⟨#[dA 0, dB 0]⟩) ∧ Below w.heap.size w w' := two_yes 0 (by decide)
  have TM := TH
  go_enter Tryz.func5, Tryz.ntmps5
  go_wp2_with fail
  refine (TH _).mono ?_
  rintro e v0 ⟨rfl, hb0⟩
  go_wp2_with fail
  refine (TM _).mono ?_
  rintro e v1 ⟨rfl, hb1⟩
  have hc1 := hb0.trans (hb1.mono hb0.size)
  clear hb0 hb1
  go_wp2_with fail
  go_ret2
  exact ⟨ret_twoPb rfl, hc1⟩
set_option maxHeartbeats 4000000 in
theorem c120x2ns (m H K M S J : Nat) (hH : H < 60) (hM : M < 60) (hS : S < 60) (hm : m ≤ 86399) (hK : K ≤ 2000) (hJ : J ≤ 4000) (q1 : (m : Int).tdiv 3600 = H) (q2 : (m : Int).tdiv 60 = K) (q3 : (K : Int).tmod 60 = M) (q4 : (m : Int).tmod 60 = S) (q5 : (m : Int).tmod 3600 = J) (q6 : (J : Int).tdiv 60 = M) (hS0 : 0 < S) (hM0 : 0 < M) (hp : 0 < m) (o : Int) (ho : o = -(m : Int)) (w : World) : Calls Tryz.prog 5 #[.int .i64 o, .int .u8 120, .int .i64 2] w fun e w' => e = .returned (.tuple #[.string ⟨#[45, dA H, dB H, dA M, dB M, dA S, dB S]⟩, .int .i64 0]) ∧ Below w.heap.size w w' := by
  have TH := two_yes H hH
  have TM := two_yes M hM
  have TS := two_yes S hS
  have g3 : (0 : Int) < S := by omega
  have g4 : ((S : Int) == 0) = false := beq_eq_false_iff_ne.2 (by omega)
  have g7 : ¬ S = 0 := by omega
  have g5 : ((M : Int) == 0) = false := beq_eq_false_iff_ne.2 (by omega)
  have g8 : ¬ M = 0 := by omega
  have g0 : ¬ o < -86399 := by omega
  have g1 : ¬ (86399 : Int) < o := by omega
  have g2 : o < 0 := by omega
  have g6 : (o == 0) = false := beq_eq_false_iff_ne.2 (by omega)
  have n1 : o.tdiv 3600 = -(H : Int) := by rw [ho, Int.neg_tdiv, q1]
  have n2 : o.tdiv 60 = -(K : Int) := by rw [ho, Int.neg_tdiv, q2]
  have n4 : o.tmod 3600 = -(J : Int) := by rw [ho, Int.neg_tmod, q5]
  have n3 : o.tmod 60 = -(S : Int) := by rw [ho, Int.neg_tmod, q4]
  have r1 : wrap64 (H : Int) = H := by simp only [wrap64]; omega
  have r2 : wrap64 (K : Int) = K := by simp only [wrap64]; omega
  have r4 : wrap64 (J : Int) = J := by simp only [wrap64]; omega
  have r3 : wrap64 (M : Int) = M := by simp only [wrap64]; omega
  clear hH hM hS hm hK hJ hS0 hM0 hp ho
  go_enter Tryz.func5, Tryz.ntmps5
  go_wp2_with fail
  refine (TH _).mono ?_
  rintro e v0 ⟨rfl, hb0⟩
  go_wp2_with fail
  refine (TM _).mono ?_
  rintro e v1 ⟨rfl, hb1⟩
  have hc1 := hb0.trans (hb1.mono hb0.size)
  clear hb0 hb1
  go_wp2_with fail
  refine (TS _).mono ?_
  rintro e v2 ⟨rfl, hb2⟩
  have hc2 := hc1.trans (hb2.mono hc1.size)
  clear hc1 hb2
  go_wp2_with fail
  go_ret2
  exact ⟨ret_twoPb rfl, hc2⟩
set_option maxHeartbeats 4000000 in
theorem c120x2nt (m H K M S J : Nat) (hH : H < 60) (hM : M < 60) (hS : S < 60) (hm : m ≤ 86399) (hK : K ≤ 2000) (hJ : J ≤ 4000) (q1 : (m : Int).tdiv 3600 = H) (q2 : (m : Int).tdiv 60 = K) (q3 : (K : Int).tmod 60 = 0) (q4 : (m : Int).tmod 60 = S) (q5 : (m : Int).tmod 3600 = J) (q6 : (J : Int).tdiv 60 = 0) (hS0 : 0 < S) (hp : 0 < m) (o : Int) (ho : o = -(m : Int)) (w : World) : Calls Tryz.prog 5 #[.int .i64 o, .int .u8 120, .int .i64 2] w fun e w' => e = .returned (.tuple #[.string ⟨#[45, dA H, dB H, dA 0, dB 0, dA S, dB S]⟩, .int .i64 0]) ∧ Below w.heap.size w w' := by
  have TH := two_yes H hH
  have TM : ∀ w : World, Calls Tryz.prog 9 #[.int .i64 0] w fun e w' => e = .returned (.string ⟨#[dA 0, dB 0]⟩) ∧ Below w.heap.size w w' := two_yes 0 (by decide)
  have TS := two_yes S hS
  have g3 : (0 : Int) < S := by omega
  have g4 : ((S : Int) == 0) = false := beq_eq_false_iff_ne.2 (by omega)
  have g7 : ¬ S = 0 := by omega
  have g0 : ¬ o < -86399 := by omega
  have g1 : ¬ (86399 : Int) < o := by omega
  have g2 : o < 0 := by omega
  have g6 : (o == 0) = false := beq_eq_false_iff_ne.2 (by omega)
  have n1 : o.tdiv 3600 = -(H : Int) := by rw [ho, Int.neg_tdiv, q1]
  have n2 : o.tdiv 60 = -(K : Int) := by rw [ho, Int.neg_tdiv, q2]
  have n4 : o.tmod 3600 = -(J : Int) := by rw [ho, Int.neg_tmod, q5]
  have n3 : o.tmod 60 = -(S : Int) := by rw [ho, Int.neg_tmod, q4]
  have r1 : wrap64 (H : Int) = H := by simp only [wrap64]; omega
  have r2 : wrap64 (K : Int) = K := by simp only [wrap64]; omega
  have r4 : wrap64 (J : Int) = J := by simp only [wrap64]; omega
  clear hH hM hS hm hK hJ hS0 hp ho
  go_enter Tryz.func5, Tryz.ntmps5
  go_wp2_with fail
  refine (TH _).mono ?_
  rintro e v0 ⟨rfl, hb0⟩
  go_wp2_with fail
  refine (TM _).mono ?_
  rintro e v1 ⟨rfl, hb1⟩
  have hc1 := hb0.trans (hb1.mono hb0.size)
  clear hb0 hb1
  go_wp2_with fail
  refine (TS _).mono ?_
  rintro e v2 ⟨rfl, hb2⟩
  have hc2 := hc1.trans (hb2.mono hc1.size)
  clear hc1 hb2
  go_wp2_with fail
  go_ret2
  exact ⟨ret_twoPb rfl, hc2⟩
set_option maxHeartbeats 4000000 in
theorem c120x2nm (m H K M S J : Nat) (hH : H < 60) (hM : M < 60) (hS : S < 60) (hm : m ≤ 86399) (hK : K ≤ 2000) (hJ : J ≤ 4000) (q1 : (m : Int).tdiv 3600 = H) (q2 : (m : Int).tdiv 60 = K) (q3 : (K : Int).tmod 60 = M) (q4 : (m : Int).tmod 60 = 0) (q5 : (m : Int).tmod 3600 = J) (q6 : (J : Int).tdiv 60 = M) (hM0 : 0 < M) (hp : 0 < m) (o : Int) (ho : o = -(m : Int)) (w : World) : Calls Tryz.prog 5 #[.int .i64 o, .int .u8 120, .int .i64 2] w fun e w' => e = .returned (.tuple #[.string ⟨#[45, dA H, dB H, dA M, dB M]⟩, .int .i64 0]) ∧ Below w.heap.size w w' := by
  have TH := two_yes H hH
  have TM := two_yes M hM
  have g5 : ((M : Int) == 0) = false := beq_eq_false_iff_ne.2 (by omega)
  have g8 : ¬ M = 0 := by omega
  have g0 : ¬ o < -86399 := by omega
  have g1 : ¬ (86399 : Int) < o := by omega
  have g2 : o < 0 := by omega
  have g6 : (o == 0) = false := beq_eq_false_iff_ne.2 (by omega)
  have n1 : o.tdiv 3600 = -(H : Int) := by rw [ho, Int.neg_tdiv, q1]
  have n2 : o.tdiv 60 = -(K : Int) := by rw [ho, Int.neg_tdiv, q2]
  have n4 : o.tmod 3600 = -(J : Int) := by rw [ho, Int.neg_tmod, q5]
  have n3 : o.tmod 60 = 0 := by rw [ho, Int.neg_tmod, q4]; rfl
  have r1 : wrap64 (H : Int) = H := by simp only [wrap64]; omega
  have r2 : wrap64 (K : Int) = K := by simp only [wrap64]; omega
  have r4 : wrap64 (J : Int) = J := by simp only [wrap64]; omega
  have r3 : wrap64 (M : Int) = M := by simp only [wrap64]; omega
  clear hH hM hS hm hK hJ hM0 hp ho
  go_enter Tryz.func5, Tryz.ntmps5
  go_wp2_with fail
  refine (TH _).mono ?_
  rintro e v0 ⟨rfl, hb0⟩
  go_wp2_with fail
  refine (TM _).mono ?_
  rintro e v1 ⟨rfl, hb1⟩
  have hc1 := hb0.trans (hb1.mono hb0.size)
  clear hb0 hb1
  go_wp2_with fail
  go_ret2
  exact ⟨ret_twoPb rfl, hc1⟩
set_option maxHeartbeats 4000000 in
theorem c120x2nh (m H K M S J : Nat) (hH : H < 60) (hM : M < 60) (hS : S < 60) (hm : m ≤ 86399) (hK : K ≤ 2000) (hJ : J ≤ 4000) (q1 : (m : Int).tdiv 3600 = H) (q2 : (m : Int).tdiv 60 = K) (q3 : (K : Int).tmod 60 = 0) (q4 : (m : Int).tmod 60 = 0) (q5 : (m : Int).tmod 3600 = J) (q6 : (J : Int).tdiv 60 = 0) (hp : 0 < m) (o : Int) (ho : o = -(m : Int)) (w : World) : Calls Tryz.prog 5 #[.int .i64 o, .int .u8 120, .int .i64 2] w fun e w' => e = .returned (.tuple #[.string ⟨#[45, dA H, dB H, dA 0, dB 0]⟩, .int .i64 0]) ∧ Below w.heap.size w w' := by
  have TH := two_yes H hH
  have TM : ∀ w : World, Calls Tryz.prog 9 #[.int .i64 0] w fun e w' => e = .returned (.string ⟨#[dA 0, dB 0]⟩) ∧ Below w.heap.size w w' := two_yes 0 (by decide)
  have g0 : ¬ o < -86399 := by omega
  have g1 : ¬ (86399 : Int) < o := by omega
  have g2 : o < 0 := by omega
  have g6 : (o == 0) = false := beq_eq_false_iff_ne.2 (by omega)
  have n1 : o.tdiv 3600 = -(H : Int) := by rw [ho, Int.neg_tdiv, q1]
  have n2 : o.tdiv 60 = -(K : Int) := by rw [ho, Int.neg_tdiv, q2]
  have n4 : o.tmod 3600 = -(J : Int) := by rw [ho, Int.neg_tmod, q5]
  have n3 : o.tmod 60 = 0 := by rw [ho, Int.neg_tmod, q4]; rfl
  have r1 : wrap64 (H : Int) = H := by simp only [wrap64]; omega
  have r2 : wrap64 (K : Int) = K := by simp only [wrap64]; omega
  have r4 : wrap64 (J : Int) = J := by simp only [wrap64]; omega
  clear hH hM hS hm hK hJ hp ho
  go_enter Tryz.func5, Tryz.ntmps5
  go_wp2_with fail
  refine (TH _).mono ?_
  rintro e v0 ⟨rfl, hb0⟩
  go_wp2_with fail
  refine (TM _).mono ?_
  rintro e v1 ⟨rfl, hb1⟩
  have hc1 := hb0.trans (hb1.mono hb0.size)
  clear hb0 hb1
  go_wp2_with fail
  go_ret2
  exact ⟨ret_twoPb rfl, hc1⟩
set_option maxHeartbeats 4000000 in
theorem c120x3ps (m H K M S J : Nat) (hH : H < 60) (hM : M < 60) (hS : S < 60) (hm : m ≤ 86399) (hK : K ≤ 2000) (hJ : J ≤ 4000) (q1 : (m : Int).tdiv 3600 = H) (q2 : (m : Int).tdiv 60 = K) (q3 : (K : Int).tmod 60 = M) (q4 : (m : Int).tmod 60 = S) (q5 : (m : Int).tmod 3600 = J) (q6 : (J : Int).tdiv 60 = M) (hS0 : 0 < S) (hM0 : 0 < M) (w : World) : Calls Tryz.prog 5 #[.int .i64 m, .int .u8 120, .int .i64 3] w fun e w' => e = .returned (.tuple #[.string ⟨#[43, dA H, dB H, dA M, dB M, dA S, dB S]⟩, .int .i64 0]) ∧ Below w.heap.size w w' := by
  have TH := two_yes H hH
  have TM := two_yes M hM
  have TS := two_yes S hS
  have g3 : (0 : Int) < S := by omega
  have g4 : ((S : Int) == 0) = false := beq_eq_false_iff_ne.2 (by omega)
  have g7 : ¬ S = 0 := by omega
  have g5 : ((M : Int) == 0) = false := beq_eq_false_iff_ne.2 (by omega)
  have g8 : ¬ M = 0 := by omega
  have g0 : ¬ (m : Int) < -86399 := by omega
  have g1 : ¬ (86399 : Int) < m := by omega
  have g2 : ¬ (m : Int) < 0 := by omega
  have g6 : ((m : Int) == 0) = false := beq_eq_false_iff_ne.2 (fun h => by rw [h] at q4; simp at q4; omega)
  have r1 : wrap64 (H : Int) = H := by simp only [wrap64]; omega
  have r2 : wrap64 (K : Int) = K := by simp only [wrap64]; omega
  have r4 : wrap64 (J : Int) = J := by simp only [wrap64]; omega
  have r3 : wrap64 (M : Int) = M := by simp only [wrap64]; omega
  clear hH hM hS hm hK hJ hS0 hM0
  go_enter Tryz.func5, Tryz.ntmps5
  go_wp2_with fail
  refine (TH _).mono ?_
  rintro e v0 ⟨rfl, hb0⟩
  go_wp2_with fail
  refine (TM _).mono ?_
  rintro e v1 ⟨rfl, hb1⟩
  have hc1 := hb0.trans (hb1.mono hb0.size)
  clear hb0 hb1
  go_wp2_with fail
  refine (TS _).mono ?_
  rintro e v2 ⟨rfl, hb2⟩
  have hc2 := hc1.trans (hb2.mono hc1.size)
  clear hc1 hb2
  go_wp2_with fail
  go_ret2
  exact ⟨ret_twoPb rfl, hc2⟩
set_option maxHeartbeats 4000000 in
theorem c120x3pt (m H K M S J : Nat) (hH : H < 60) (hM : M < 60) (hS : S < 60) (hm : m ≤ 86399) (hK : K ≤ 2000) (hJ : J ≤ 4000) (q1 : (m : Int).tdiv 3600 = H) (q2 : (m : Int).tdiv 60 = K) (q3 : (K : Int).tmod 60 = 0) (q4 : (m : Int).tmod 60 = S) (q5 : (m : Int).tmod 3600 = J) (q6 : (J : Int).tdiv 60 = 0) (hS0 : 0 < S) (w : World) : Calls Tryz.prog 5 #[.int .i64 m, .int .u8 120, .int .i64 3] w fun e w' => e = .returned (.tuple #[.string ⟨#[43, dA H, dB H, dA 0, dB 0, dA S, dB S]⟩, .int .i64 0]) ∧ Below w.heap.size w w' := by
  have TH := two_yes H hH
  have TM : ∀ w : World, Calls Tryz.prog 9 #[.int .i64 0] w fun e w' => e = .returned (.string ⟨#[dA 0, dB 0]⟩) ∧ Below w.heap.size w w' := two_yes 0 (by decide)
  have TS := two_yes S hS
  have g3 : (0 : Int) < S := by omega
  have g4 : ((S : Int) == 0) = false := beq_eq_false_iff_ne.2 (by omega)
  have g7 : ¬ S = 0 := by omega
  have g0 : ¬ (m : Int) < -86399 := by omega
  have g1 : ¬ (86399 : Int) < m := by omega
  have g2 : ¬ (m : Int) < 0 := by omega
  have g6 : ((m : Int) == 0) = false := beq_eq_false_iff_ne.2 (fun h => by rw [h] at q4; simp at q4; omega)
  have r1 : wrap64 (H : Int) = H := by simp only [wrap64]; omega
  have r2 : wrap64 (K : Int) = K := by simp only [wrap64]; omega
  have r4 : wrap64 (J : Int) = J := by simp only [wrap64]; omega
  clear hH hM hS hm hK hJ hS0
  go_enter Tryz.func5, Tryz.ntmps5
  go_wp2_with fail
  refine (TH _).mono ?_
  rintro e v0 ⟨rfl, hb0⟩
  go_wp2_with fail
  refine (TM _).mono ?_
  rintro e v1 ⟨rfl, hb1⟩
  have hc1 := hb0.trans (hb1.mono hb0.size)
  clear hb0 hb1
  go_wp2_with fail
  refine (TS _).mono ?_
  rintro e v2 ⟨rfl, hb2⟩
  have hc2 := hc1.trans (hb2.mono hc1.size)
  clear hc1 hb2
  go_wp2_with fail
  go_ret2
  exact ⟨ret_twoPb rfl, hc2⟩
set_option maxHeartbeats 4000000 in
theorem c120x3pm (m H K M S J : Nat) (hH : H < 60) (hM : M < 60) (hS : S < 60) (hm : m ≤ 86399) (hK : K ≤ 2000) (hJ : J ≤ 4000) (q1 : (m : Int).tdiv 3600 = H) (q2 : (m : Int).tdiv 60 = K) (q3 : (K : Int).tmod 60 = M) (q4 : (m : Int).tmod 60 = 0) (q5 : (m : Int).tmod 3600 = J) (q6 : (J : Int).tdiv 60 = M) (hM0 : 0 < M) (w : World) : Calls Tryz.prog 5 #[.int .i64 m, .int .u8 120, .int .i64 3] w fun e w' => e = .returned (.tuple #[.string ⟨#[43, dA H, dB H, dA M, dB M]⟩, .int .i64 0]) ∧ Below w.heap.size w w' := by
  have TH := two_yes H hH
  have TM := two_yes M hM
  have g5 : ((M : Int) == 0) = false := beq_eq_false_iff_ne.2 (by omega)
  have g8 : ¬ M = 0 := by omega
  have g0 : ¬ (m : Int) < -86399 := by omega
  have g1 : ¬ (86399 : Int) < m := by omega
  have g2 : ¬ (m : Int) < 0 := by omega
  have g6 : ((m : Int) == 0) = false := beq_eq_false_iff_ne.2 (fun h => by rw [h] at q2; simp at q2; rw [← q2] at q3; simp at q3; omega)
  have r1 : wrap64 (H : Int) = H := by simp only [wrap64]; omega
  have r2 : wrap64 (K : Int) = K := by simp only [wrap64]; omega
  have r4 : wrap64 (J : Int) = J := by simp only [wrap64]; omega
  have r3 : wrap64 (M : Int) = M := by simp only [wrap64]; omega
  clear hH hM hS hm hK hJ hM0
  go_enter Tryz.func5, Tryz.ntmps5
  go_wp2_with fail
  refine (TH _).mono ?_
  rintro e v0 ⟨rfl, hb0⟩
  go_wp2_with fail
  refine (TM _).mono ?_
  rintro e v1 ⟨rfl, hb1⟩
  have hc1 := hb0.trans (hb1.mono hb0.size)
  clear hb0 hb1
  go_wp2_with fail
  go_ret2
  exact ⟨ret_twoPb rfl, hc1⟩
set_option maxHeartbeats 4000000 in
theorem c120x3ph (m H K M S J : Nat) (hH : H < 60) (hM : M < 60) (hS : S < 60) (hm : m ≤ 86399) (hK : K ≤ 2000) (hJ : J ≤ 4000) (q1 : (m : Int).tdiv 3600 = H) (q2 : (m : Int).tdiv 60 = K) (q3 : (K : Int).tmod 60 = 0) (q4 : (m : Int).tmod 60 = 0) (q5 : (m : Int).tmod 3600 = J) (q6 : (J : Int).tdiv 60 = 0) (hp : 0 < m) (w : World) : Calls Tryz.prog 5 #[.int .i64 m, .int .u8 120, .int .i64 3] w fun e w' => e = .returned (.tuple #[.string ⟨#[43, dA H, dB H, dA 0, dB 0]⟩, .int .i64 0]) ∧ Below w.heap.size w w' := by
  have TH := two_yes H hH
  have TM : ∀ w : World, Calls Tryz.prog 9 #[.int .i64 0] w fun e w' => e = .returned (.string ⟨#[dA 0, dB 0]⟩) ∧ Below w.heap.size w w' := two_yes 0 (by decide)
  have g0 : ¬ (m : Int) < -86399 := by omega
  have g1 : ¬ (86399 : Int) < m := by omega
  have g2 : ¬ (m : Int) < 0 := by omega
  have g6 : ((m : Int) == 0) = false := beq_eq_false_iff_ne.2 (by omega)
  have r1 : wrap64 (H : Int) = H := by simp only [wrap64]; omega
  have r2 : wrap64 (K : Int) = K := by simp only [wrap64]; omega
  have r4 : wrap64 (J : Int) = J := by simp only [wrap64]; omega
  clear hH hM hS hm hK hJ hp
  go_enter Tryz.func5, Tryz.ntmps5
  go_wp2_with fail
  refine (TH _).mono ?_
  rintro e v0 ⟨rfl, hb0⟩
  go_wp2_with fail
  refine (TM _).mono ?_
  rintro e v1 ⟨rfl, hb1⟩
  have hc1 := hb0.trans (hb1.mono hb0.size)
  clear hb0 hb1
  go_wp2_with fail
  go_ret2
  exact ⟨ret_twoPb rfl, hc1⟩
set_option maxHeartbeats 4000000 in
theorem c120x3pz  (w : World) : Calls Tryz.prog 5 #[.int .i64 0, .int .u8 120, .int .i64 3] w fun e w' => e = .returned (.tuple #[.string ⟨#[43, dA 0, dB 0, dA 0, dB 0]⟩, .int .i64 0]) ∧ Below w.heap.size w w' := by
  have TH : ∀ w : World, Calls Tryz.prog 9 #[.int .i64 0] w fun e w' => e = .returned (.string ⟨#[dA 0, dB 0]⟩) ∧ Below w.heap.size w w' := two_yes 0 (by decide)
  have TM := TH
  go_enter Tryz.func5, Tryz.ntmps5
  go_wp2_with fail
  refine (TH _).mono ?_
  rintro e v0 ⟨rfl, hb0⟩
  go_wp2_with fail
  refine (TM _).mono ?_
  rintro e v1 ⟨rfl, hb1⟩
  have hc1 := hb0.trans (hb1.mono hb0.size)
  clear hb0 hb1
  go_wp2_with fail
  go_ret2
  exact ⟨ret_twoPb rfl, hc1⟩
set_option maxHeartbeats 4000000 in
theorem c120x3ns (m H K M S J : Nat) (hH : H < 60) (hM : M < 60) (hS : S < 60) (hm : m ≤ 86399) (hK : K ≤ 2000) (hJ : J ≤ 4000) (q1 : (m : Int).tdiv 3600 = H) (q2 : (m : Int).tdiv 60 = K) (q3 : (K : Int).tmod 60 = M) (q4 : (m : Int).tmod 60 = S) (q5 : (m : Int).tmod 3600 = J) (q6 : (J : Int).tdiv 60 = M) (hS0 : 0 < S) (hM0 : 0 < M) (hp : 0 < m) (o : Int) (ho : o = -(m : Int)) (w : World) : Calls Tryz.prog 5 #[.int .i64 o, .int .u8 120, .int .i64 3] w fun e w' => e = .returned (.tuple #[.string ⟨#[45, dA H, dB H, dA M, dB M, dA S, dB S]⟩, .int .i64 0]) ∧ Below w.heap.size w w' := by
  have TH := two_yes H hH
  have TM := two_yes M hM
  have TS := two_yes S hS
  have g3 : (0 : Int) < S := by omega
  have g4 : ((S : Int) == 0) = false := beq_eq_false_iff_ne.2 (by omega)
  have g7 : ¬ S = 0 := by omega
  have g5 : ((M : Int) == 0) = false := beq_eq_false_iff_ne.2 (by omega)
  have g8 : ¬ M = 0 := by omega
  have g0 : ¬ o < -86399 := by omega
  have g1 : ¬ (86399 : Int) < o := by omega
  have g2 : o < 0 := by omega
  have g6 : (o == 0) = false := beq_eq_false_iff_ne.2 (by omega)
  have n1 : o.tdiv 3600 = -(H : Int) := by rw [ho, Int.neg_tdiv, q1]
  have n2 : o.tdiv 60 = -(K : Int) := by rw [ho, Int.neg_tdiv, q2]
  have n4 : o.tmod 3600 = -(J : Int) := by rw [ho, Int.neg_tmod, q5]
  have n3 : o.tmod 60 = -(S : Int) := by rw [ho, Int.neg_tmod, q4]
  have r1 : wrap64 (H : Int) = H := by simp only [wrap64]; omega
  have r2 : wrap64 (K : Int) = K := by simp only [wrap64]; omega
  have r4 : wrap64 (J : Int) = J := by simp only [wrap64]; omega
  have r3 : wrap64 (M : Int) = M := by simp only [wrap64]; omega
  clear hH hM hS hm hK hJ hS0 hM0 hp ho
  go_enter Tryz.func5, Tryz.ntmps5
  go_wp2_with fail
  refine (TH _).mono ?_
  rintro e v0 ⟨rfl, hb0⟩
  go_wp2_with fail
  refine (TM _).mono ?_
  rintro e v1 ⟨rfl, hb1⟩
  have hc1 := hb0.trans (hb1.mono hb0.size)
  clear hb0 hb1
  go_wp2_with fail
  refine (TS _).mono ?_
  rintro e v2 ⟨rfl, hb2⟩
  have hc2 := hc1.trans (hb2.mono hc1.size)
  clear hc1 hb2
  go_wp2_with fail
  go_ret2
  exact ⟨ret_twoPb rfl, hc2⟩
set_option maxHeartbeats 4000000 in
theorem c120x3nt (m H K M S J : Nat) (hH : H < 60) (hM : M < 60) (hS : S < 60) (hm : m ≤ 86399) (hK : K ≤ 2000) (hJ : J ≤ 4000) (q1 : (m : Int).tdiv 3600 = H) (q2 : (m : Int).tdiv 60 = K) (q3 : (K : Int).tmod 60 = 0) (q4 : (m : Int).tmod 60 = S) (q5 : (m : Int).tmod 3600 = J) (q6 : (J : Int).tdiv 60 = 0) (hS0 : 0 < S) (hp : 0 < m) (o : Int) (ho : o = -(m : Int)) (w : World) : Calls Tryz.prog 5 #[.int .i64 o, .int .u8 120, .int .i64 3] w fun e w' => e = .returned (.tuple #[.string ⟨#[45, dA H, dB H, dA 0, dB 0, dA S, dB S]⟩, .int .i64 0]) ∧ Below w.heap.size w w' := by
  have TH := two_yes H hH
  have TM : ∀ w : World, Calls Tryz.prog 9 #[.int .i64 0] w fun e w' => e = .returned (.string ⟨#[dA 0, dB 0]⟩) ∧ Below w.heap.size w w' := two_yes 0 (by decide)
  have TS := two_yes S hS
  have g3 : (0 : Int) < S := by omega
  have g4 : ((S : Int) == 0) = false := beq_eq_false_iff_ne.2 (by omega)
  have g7 : ¬ S = 0 := by omega
  have g0 : ¬ o < -86399 := by omega
  have g1 : ¬ (86399 : Int) < o := by omega
  have g2 : o < 0 := by omega
  have g6 : (o == 0) = false := beq_eq_false_iff_ne.2 (by omega)
  have n1 : o.tdiv 3600 = -(H : Int) := by rw [ho, Int.neg_tdiv, q1]
  have n2 : o.tdiv 60 = -(K : Int) := by rw [ho, Int.neg_tdiv, q2]
  have n4 : o.tmod 3600 = -(J : Int) := by rw [ho, Int.neg_tmod, q5]
  have n3 : o.tmod 60 = -(S : Int) := by rw [ho, Int.neg_tmod, q4]
  have r1 : wrap64 (H : Int) = H := by simp only [wrap64]; omega
  have r2 : wrap64 (K : Int) = K := by simp only [wrap64]; omega
  have r4 : wrap64 (J : Int) = J := by simp only [wrap64]; omega
  clear hH hM hS hm hK hJ hS0 hp ho
  go_enter Tryz.func5, Tryz.ntmps5
  go_wp2_with fail
  refine (TH _).mono ?_
  rintro e v0 ⟨rfl, hb0⟩
  go_wp2_with fail
  refine (TM _).mono ?_
  rintro e v1 ⟨rfl, hb1⟩
  have hc1 := hb0.trans (hb1.mono hb0.size)
  clear hb0 hb1
  go_wp2_with fail
  refine (TS _).mono ?_
  rintro e v2 ⟨rfl, hb2⟩
  have hc2 := hc1.trans (hb2.mono hc1.size)
  clear hc1 hb2
  go_wp2_with fail
  go_ret2
  exact ⟨ret_twoPb rfl, hc2⟩
set_option maxHeartbeats 4000000 in
theorem c120x3nm (m H K M S J : Nat) (hH : H < 60) (hM : M < 60) (hS : S < 60) (hm : m ≤ 86399) (hK : K ≤ 2000) (hJ : J ≤ 4000) (q1 : (m : Int).tdiv 3600 = H) (q2 : (m : Int).tdiv 60 = K) (q3 : (K : Int).tmod 60 = M) (q4 : (m : Int).tmod 60 = 0) (q5 : (m : Int).tmod 3600 = J) (q6 : (J : Int).tdiv 60 = M) (hM0 : 0 < M) (hp : 0 < m) (o : Int) (ho : o = -(m : Int)) (w : World) : Calls Tryz.prog 5 #[.int .i64 o, .int .u8 120, .int .i64 3] w fun e w' => e = .returned (.tuple #[.string ⟨#[45, dA H, dB H, dA M, dB M]⟩, .int .i64 0]) ∧ Below w.heap.size w w' := by
  have TH := two_yes H hH
  have TM := two_yes M hM
  have g5 : ((M : Int) == 0) = false := beq_eq_false_iff_ne.2 (by omega)
  have g8 : ¬ M = 0 := by omega
  have g0 : ¬ o < -86399 := by omega
  have g1 : ¬ (86399 : Int) < o := by omega
  have g2 : o < 0 := by omega
  have g6 : (o == 0) = false := beq_eq_false_iff_ne.2 (by omega)
  have n1 : o.tdiv 3600 = -(H : Int) := by rw [ho, Int.neg_tdiv, q1]
  have n2 : o.tdiv 60 = -(K : Int) := by rw [ho, Int.neg_tdiv, q2]
  have n4 : o.tmod 3600 = -(J : Int) := by rw [ho, Int.neg_tmod, q5]
  have n3 : o.tmod 60 = 0 := by rw [ho, Int.neg_tmod, q4]; rfl
  have r1 : wrap64 (H : Int) = H := by simp only [wrap64]; omega
  have r2 : wrap64 (K : Int) = K := by simp only [wrap64]; omega
  have r4 : wrap64 (J : Int) = J := by simp only [wrap64]; omega
  have r3 : wrap64 (M : Int) = M := by simp only [wrap64]; omega
  clear hH hM hS hm hK hJ hM0 hp ho
  go_enter Tryz.func5, Tryz.ntmps5
  go_wp2_with fail
  refine (TH _).mono ?_
  rintro e v0 ⟨rfl, hb0⟩
  go_wp2_with fail
  refine (TM _).mono ?_
  rintro e v1 ⟨rfl, hb1⟩
  have hc1 := hb0.trans (hb1.mono hb0.size)
  clear hb0 hb1
  go_wp2_with fail
  go_ret2
  exact ⟨ret_twoPb rfl, hc1⟩
set_option maxHeartbeats 4000000 in
theorem c120x3nh (m H K M S J : Nat) (hH : H < 60) (hM : M < 60) (hS : S < 60) (hm : m ≤ 86399) (hK : K ≤ 2000) (hJ : J ≤ 4000) (q1 : (m : Int).tdiv 3600 = H) (q2 : (m : Int).tdiv 60 = K) (q3 : (K : Int).tmod 60 = 0) (q4 : (m : Int).tmod 60 = 0) (q5 : (m : Int).tmod 3600 = J) (q6 : (J : Int).tdiv 60 = 0) (hp : 0 < m) (o : Int) (ho : o = -(m : Int)) (w : World) : Calls Tryz.prog 5 #[.int .i64 o, .int .u8 120, .int .i64 3] w fun e w' => e = .returned (.tuple #[.string ⟨#[45, dA H, dB H, dA 0, dB 0]⟩, .int .i64 0]) ∧ Below w.heap.size w w' := by
  have TH := two_yes H hH
  have TM : ∀ w : World, Calls Tryz.prog 9 #[.int .i64 0] w fun e w' => e = .returned (.string ⟨#[dA 0, dB 0]⟩) ∧ Below w.heap.size w w' := two_yes 0 (by decide)
  have g0 : ¬ o < -86399 := by omega
  have g1 : ¬ (86399 : Int) < o := by omega
  have g2 : o < 0 := by omega
  have g6 : (o == 0) = false := beq_eq_false_iff_ne.2 (by omega)
  have n1 : o.tdiv 3600 = -(H : Int) := by rw [ho, Int.neg_tdiv, q1]
  have n2 : o.tdiv 60 = -(K : Int) := by rw [ho, Int.neg_tdiv, q2]
  have n4 : o.tmod 3600 = -(J : Int) := by rw [ho, Int.neg_tmod, q5]
  have n3 : o.tmod 60 = 0 := by rw [ho, Int.neg_tmod, q4]; rfl
  have r1 : wrap64 (H : Int) = H := by simp only [wrap64]; omega
  have r2 : wrap64 (K : Int) = K := by simp only [wrap64]; omega
  have r4 : wrap64 (J : Int) = J := by simp only [wrap64]; omega
  clear hH hM hS hm hK hJ hp ho
  go_enter Tryz.func5, Tryz.ntmps5
  go_wp2_with fail
  refine (TH _).mono ?_
  rintro e v0 ⟨rfl, hb0⟩
  go_wp2_with fail
  refine (TM _).mono ?_
  rintro e v1 ⟨rfl, hb1⟩
  have hc1 := hb0.trans (hb1.mono hb0.size)
  clear hb0 hb1
  go_wp2_with fail
  go_ret2
  exact ⟨ret_twoPb rfl, hc1⟩
set_option maxHeartbeats 4000000 in
theorem c120x4ps (m H K M S J : Nat) (hH : H < 60) (hM : M < 60) (hS : S < 60) (hm : m ≤ 86399) (hK : K ≤ 2000) (hJ : J ≤ 4000) (q1 : (m : Int).tdiv 3600 = H) (q2 : (m : Int).tdiv 60 = K) (q3 : (K : Int).tmod 60 = M) (q4 : (m : Int).tmod 60 = S) (q5 : (m : Int).tmod 3600 = J) (q6 : (J : Int).tdiv 60 = M) (hS0 : 0 < S) (hM0 : 0 < M) (w : World) : Calls Tryz.prog 5 #[.int .i64 m, .int .u8 120, .int .i64 4] w fun e w' => e = .returned (.tuple #[.string ⟨#[43, dA H, dB H, dA M, dB M, dA S, dB S]⟩, .int .i64 0]) ∧ Below w.heap.size w w' := by
  have TH := two_yes H hH
  have TM := two_yes M hM
  have TS := two_yes S hS
  have g3 : (0 : Int) < S := by omega
  have g4 : ((S : Int) == 0) = false := beq_eq_false_iff_ne.2 (by omega)
  have g7 : ¬ S = 0 := by omega
  have g5 : ((M : Int) == 0) = false := beq_eq_false_iff_ne.2 (by omega)
  have g8 : ¬ M = 0 := by omega
  have g0 : ¬ (m : Int) < -86399 := by omega
  have g1 : ¬ (86399 : Int) < m := by omega
  have g2 : ¬ (m : Int) < 0 := by omega
  have g6 : ((m : Int) == 0) = false := beq_eq_false_iff_ne.2 (fun h => by rw [h] at q4; simp at q4; omega)
  have r1 : wrap64 (H : Int) = H := by simp only [wrap64]; omega
  have r2 : wrap64 (K : Int) = K := by simp only [wrap64]; omega
  have r4 : wrap64 (J : Int) = J := by simp only [wrap64]; omega
  have r3 : wrap64 (M : Int) = M := by simp only [wrap64]; omega
  clear hH hM hS hm hK hJ hS0 hM0
  go_enter Tryz.func5, Tryz.ntmps5
  go_wp2_with fail
  refine (TH _).mono ?_
  rintro e v0 ⟨rfl, hb0⟩
  go_wp2_with fail
  refine (TM _).mono ?_
  rintro e v1 ⟨rfl, hb1⟩
  have hc1 := hb0.trans (hb1.mono hb0.size)
  clear hb0 hb1
  go_wp2_with fail
  refine (TS _).mono ?_
  rintro e v2 ⟨rfl, hb2⟩
  have hc2 := hc1.trans (hb2.mono hc1.size)
  clear hc1 hb2
  go_wp2_with fail
  go_ret2
  exact ⟨ret_twoPb rfl, hc2⟩
set_option maxHeartbeats 4000000 in
theorem c120x4pt (m H K M S J : Nat) (hH : H < 60) (hM : M < 60) (hS : S < 60) (hm : m ≤ 86399) (hK : K ≤ 2000) (hJ : J ≤ 4000) (q1 : (m : Int).tdiv 3600 = H) (q2 : (m : Int).tdiv 60 = K) (q3 : (K : Int).tmod 60 = 0) (q4 : (m : Int).tmod 60 = S) (q5 : (m : Int).tmod 3600 = J) (q6 : (J : Int).tdiv 60 = 0) (hS0 : 0 < S) (w : World) : Calls Tryz.prog 5 #[.int .i64 m, .int .u8 120, .int .i64 4] w fun e w' => e = .returned (.tuple #[.string ⟨#[43, dA H, dB H, dA 0, dB 0, dA S, dB S]⟩, .int .i64 0]) ∧ Below w.heap.size w w' := by
  have TH := two_yes H hH
  have TM : ∀ w : World, Calls Tryz.prog 9 #[.int .i64 0] w fun e w' => e = .returned (.string ⟨#[dA 0, dB 0]⟩) ∧ Below w.heap.size w w' := two_yes 0 (by decide)
  have TS := two_yes S hS
  have g3 : (0 : Int) < S := by omega
  have g4 : ((S : Int) == 0) = false := beq_eq_false_iff_ne.2 (by omega)
  have g7 : ¬ S = 0 := by omega
  have g0 : ¬ (m : Int) < -86399 := by omega
  have g1 : ¬ (86399 : Int) < m := by omega
  have g2 : ¬ (m : Int) < 0 := by omega
  have g6 : ((m : Int) == 0) = false := beq_eq_false_iff_ne.2 (fun h => by rw [h] at q4; simp at q4; omega)
  have r1 : wrap64 (H : Int) = H := by simp only [wrap64]; omega
  have r2 : wrap64 (K : Int) = K := by simp only [wrap64]; omega
  have r4 : wrap64 (J : Int) = J := by simp only [wrap64]; omega
  clear hH hM hS hm hK hJ hS0
  go_enter Tryz.func5, Tryz.ntmps5
  go_wp2_with fail
  refine (TH _).mono ?_
  rintro e v0 ⟨rfl, hb0⟩
  go_wp2_with fail
  refine (TM _).mono ?_
  rintro e v1 ⟨rfl, hb1⟩
  have hc1 := hb0.trans (hb1.mono hb0.size)
  clear hb0 hb1
  go_wp2_with fail
  refine (TS _).mono ?_
  rintro e v2 ⟨rfl, hb2⟩
  have hc2 := hc1.trans (hb2.mono hc1.size)
  clear hc1 hb2
  go_wp2_with fail
  go_ret2
  exact ⟨ret_twoPb rfl, hc2⟩
set_option maxHeartbeats 4000000 in
theorem c120x4pm (m H K M S J : Nat) (hH : H < 60) (hM : M < 60) (hS : S < 60) (hm : m ≤ 86399) (hK : K ≤ 2000) (hJ : J ≤ 4000) (q1 : (m : Int).tdiv 3600 = H) (q2 : (m : Int).tdiv 60 = K) (q3 : (K : Int).tmod 60 = M) (q4 : (m : Int).tmod 60 = 0) (q5 : (m : Int).tmod 3600 = J) (q6 : (J : Int).tdiv 60 = M) (hM0 : 0 < M) (w : World) : Calls Tryz.prog 5 #[.int .i64 m, .int .u8 120, .int .i64 4] w fun e w' => e = .returned (.tuple #[.string ⟨#[43, dA H, dB H, dA M, dB M]⟩, .int .i64 0]) ∧ Below w.heap.size w w' := by
  have TH := two_yes H hH
  have TM := two_yes M hM
  have g5 : ((M : Int) == 0) = false := beq_eq_false_iff_ne.2 (by omega)
  have g8 : ¬ M = 0 := by omega
  have g0 : ¬ (m : Int) < -86399 := by omega
  have g1 : ¬ (86399 : Int) < m := by omega
  have g2 : ¬ (m : Int) < 0 := by omega
  have g6 : ((m : Int) == 0) = false := beq_eq_false_iff_ne.2 (fun h => by rw [h] at q2; simp at q2; rw [← q2] at q3; simp at q3; omega)
  have r1 : wrap64 (H : Int) = H := by simp only [wrap64]; omega
  have r2 : wrap64 (K : Int) = K := by simp only [wrap64]; omega
  have r4 : wrap64 (J : Int) = J := by simp only [wrap64]; omega
  have r3 : wrap64 (M : Int) = M := by simp only [wrap64]; omega
  clear hH hM hS hm hK hJ hM0
  go_enter Tryz.func5, Tryz.ntmps5
  go_wp2_with fail
  refine (TH _).mono ?_
  rintro e v0 ⟨rfl, hb0⟩
  go_wp2_with fail
  refine (TM _).mono ?_
  rintro e v1 ⟨rfl, hb1⟩
  have hc1 := hb0.trans (hb1.mono hb0.size)
  clear hb0 hb1
  go_wp2_with fail
  go_ret2
  exact ⟨ret_twoPb rfl, hc1⟩
set_option maxHeartbeats 4000000 in
theorem c120x4ph (m H K M S J : Nat) (hH : H < 60) (hM : M < 60) (hS : S < 60) (hm : m ≤ 86399) (hK : K ≤ 2000) (hJ : J ≤ 4000) (q1 : (m : Int).tdiv 3600 = H) (q2 : (m : Int).tdiv 60 = K) (q3 : (K : Int).tmod 60 = 0) (q4 : (m : Int).tmod 60 = 0) (q5 : (m : Int).tmod 3600 = J) (q6 : (J : Int).tdiv 60 = 0) (hp : 0 < m) (w : World) : Calls Tryz.prog 5 #[.int .i64 m, .int .u8 120, .int .i64 4] w fun e w' => e = .returned (.tuple #[.string ⟨#[43, dA H, dB H, dA 0, dB 0]⟩, .int .i64 0]) ∧ Below w.heap.size w w' := by
  have TH := two_yes H hH
  have TM : ∀ w : World, Calls Tryz.prog 9 #[.int .i64 0] w fun e w' => e = .returned (.string ⟨#[dA 0, dB 0]⟩) ∧ Below w.heap.size w w' := two_yes 0 (by decide)
  have g0 : ¬ (m : Int) < -86399 := by omega
  have g1 : ¬ (86399 : Int) < m := by omega
  have g2 : ¬ (m : Int) < 0 := by omega
  have g6 : ((m : Int) == 0) = false := beq_eq_false_iff_ne.2 (by omega)
  have r1 : wrap64 (H : Int) = H := by simp only [wrap64]; omega
  have r2 : wrap64 (K : Int) = K := by simp only [wrap64]; omega
  have r4 : wrap64 (J : Int) = J := by simp only [wrap64]; omega
  clear hH hM hS hm hK hJ hp
  go_enter Tryz.func5, Tryz.ntmps5
  go_wp2_with fail
  refine (TH _).mono ?_
  rintro e v0 ⟨rfl, hb0⟩
  go_wp2_with fail
  refine (TM _).mono ?_
  rintro e v1 ⟨rfl, hb1⟩
  have hc1 := hb0.trans (hb1.mono hb0.size)
  clear hb0 hb1
  go_wp2_with fail
  go_ret2
  exact ⟨ret_twoPb rfl, hc1⟩
set_option maxHeartbeats 4000000 in
theorem c120x4pz  (w : World) : Calls Tryz.prog 5 #[.int .i64 0, .int .u8 120, .int .i64 4] w fun e w' => e = .returned (.tuple #[.string ⟨#[43, dA 0, dB 0, dA 0, dB 0]⟩, .int .i64 0]) ∧ Below w.heap.size w w' := by
  have TH : ∀ w : World, Calls Tryz.prog 9 #[.int .i64 0] w fun e w' => e = .returned (.string ⟨#[dA 0, dB 0]⟩) ∧ Below w.heap.size w w' := two_yes 0 (by decide)
  have TM := TH
  go_enter Tryz.func5, Tryz.ntmps5
  go_wp2_with fail
  refine (TH _).mono ?_
  rintro e v0 ⟨rfl, hb0⟩
  go_wp2_with fail
  refine (TM _).mono ?_
  rintro e v1 ⟨rfl, hb1⟩
  have hc1 := hb0.trans (hb1.mono hb0.size)
  clear hb0 hb1
  go_wp2_with fail
  go_ret2
  exact ⟨ret_twoPb rfl, hc1⟩
set_option maxHeartbeats 4000000 in
theorem c120x4ns (m H K M S J : Nat) (hH : H < 60) (hM : M < 60) (hS : S < 60) (hm : m ≤ 86399) (hK : K ≤ 2000) (hJ : J ≤ 4000) (q1 : (m : Int).tdiv 3600 = H) (q2 : (m : Int).tdiv 60 = K) (q3 : (K : Int).tmod 60 = M) (q4 : (m : Int).tmod 60 = S) (q5 : (m : Int).tmod 3600 = J) (q6 : (J : Int).tdiv 60 = M) (hS0 : 0 < S) (hM0 : 0 < M) (hp : 0 < m) (o : Int) (ho : o = -(m : Int)) (w : World) : Calls Tryz.prog 5 #[.int .i64 o, .int .u8 120, .int .i64 4] w fun e w' => e = .returned (.tuple #[.string ⟨#[45, dA H, dB H, dA M, dB M, dA S, dB S]⟩, .int .i64 0]) ∧ Below w.heap.size w w' := by
  have TH := two_yes H hH
  have TM := two_yes M hM
  have TS := two_yes S hS
  have g3 : (0 : Int) < S := by omega
  have g4 : ((S : Int) == 0) = false := beq_eq_false_iff_ne.2 (by omega)
  have g7 : ¬ S = 0 := by omega
  have g5 : ((M : Int) == 0) = false := beq_eq_false_iff_ne.2 (by omega)
  have g8 : ¬ M = 0 := by omega
  have g0 : ¬ o < -86399 := by omega
  have g1 : ¬ (86399 : Int) < o := by omega
  have g2 : o < 0 := by omega
  have g6 : (o == 0) = false := beq_eq_false_iff_ne.2 (by omega)
  have n1 : o.tdiv 3600 = -(H : Int) := by rw [ho, Int.neg_tdiv, q1]
  have n2 : o.tdiv 60 = -(K : Int) := by rw [ho, Int.neg_tdiv, q2]
  have n4 : o.tmod 3600 = -(J : Int) := by rw [ho, Int.neg_tmod, q5]
  have n3 : o.tmod 60 = -(S : Int) := by rw [ho, Int.neg_tmod, q4]
  have r1 : wrap64 (H : Int) = H := by simp only [wrap64]; omega
  have r2 : wrap64 (K : Int) = K := by simp only [wrap64]; omega
  have r4 : wrap64 (J : Int) = J := by simp only [wrap64]; omega
  have r3 : wrap64 (M : Int) = M := by simp only [wrap64]; omega
  clear hH hM hS hm hK hJ hS0 hM0 hp ho
  go_enter Tryz.func5, Tryz.ntmps5
  go_wp2_with fail
  refine (TH _).mono ?_
  rintro e v0 ⟨rfl, hb0⟩
  go_wp2_with fail
  refine (TM _).mono ?_
  rintro e v1 ⟨rfl, hb1⟩
  have hc1 := hb0.trans (hb1.mono hb0.size)
  clear hb0 hb1
  go_wp2_with fail
  refine (TS _).mono ?_
  rintro e v2 ⟨rfl, hb2⟩
  have hc2 := hc1.trans (hb2.mono hc1.size)
  clear hc1 hb2
  go_wp2_with fail
  go_ret2
  exact ⟨ret_twoPb rfl, hc2⟩
set_option maxHeartbeats 4000000 in
theorem c120x4nt (m H K M S J : Nat) (hH : H < 60) (hM : M < 60) (hS : S < 60) (hm : m ≤ 86399) (hK : K ≤ 2000) (hJ : J ≤ 4000) (q1 : (m : Int).tdiv 3600 = H) (q2 : (m : Int).tdiv 60 = K) (q3 : (K : Int).tmod 60 = 0) (q4 : (m : Int).tmod 60 = S) (q5 : (m : Int).tmod 3600 = J) (q6 : (J : Int).tdiv 60 = 0) (hS0 : 0 < S) (hp : 0 < m) (o : Int) (ho : o = -(m : Int)) (w : World) : Calls Tryz.prog 5 #[.int .i64 o, .int .u8 120, .int .i64 4] w fun e w' => e = .returned (.tuple #[.string ⟨#[45, dA H, dB H, dA 0, dB 0, dA S, dB S]⟩, .int .i64 0]) ∧ Below w.heap.size w w' := by
  have TH := two_yes H hH
  have TM : ∀ w : World, Calls Tryz.prog 9 #[.int .i64 0] w fun e w' => e = .returned (.string ⟨#[dA 0, dB 0]⟩) ∧ Below w.heap.size w w' := two_yes 0 (by decide)
  have TS := two_yes S hS
  have g3 : (0 : Int) < S := by omega
  have g4 : ((S : Int) == 0) = false := beq_eq_false_iff_ne.2 (by omega)
  have g7 : ¬ S = 0 := by omega
  have g0 : ¬ o < -86399 := by omega
  have g1 : ¬ (86399 : Int) < o := by omega
  have g2 : o < 0 := by omega
  have g6 : (o == 0) = false := beq_eq_false_iff_ne.2 (by omega)
  have n1 : o.tdiv 3600 = -(H : Int) := by rw [ho, Int.neg_tdiv, q1]
  have n2 : o.tdiv 60 = -(K : Int) := by rw [ho, Int.neg_tdiv, q2]
  have n4 : o.tmod 3600 = -(J : Int) := by rw [ho, Int.neg_tmod, q5]
  have n3 : o.tmod 60 = -(S : Int) := by rw [ho, Int.neg_tmod, q4]
  have r1 : wrap64 (H : Int) = H := by simp only [wrap64]; omega
  have r2 : wrap64 (K : Int) = K := by simp only [wrap64]; omega
  have r4 : wrap64 (J : Int) = J := by simp only [wrap64]; omega
  clear hH hM hS hm hK hJ hS0 hp ho
  go_enter Tryz.func5, Tryz.ntmps5
  go_wp2_with fail
  refine (TH _).mono ?_
  rintro e v0 ⟨rfl, hb0⟩
  go_wp2_with fail
  refine (TM _).mono ?_
  rintro e v1 ⟨rfl, hb1⟩
  have hc1 := hb0.trans (hb1.mono hb0.size)
  clear hb0 hb1
  go_wp2_with fail
  refine (TS _).mono ?_
  rintro e v2 ⟨rfl, hb2⟩
  have hc2 := hc1.trans (hb2.mono hc1.size)
  clear hc1 hb2
  go_wp2_with fail
  go_ret2
  exact ⟨ret_twoPb rfl, hc2⟩
set_option maxHeartbeats 4000000 in
theorem c120x4nm (m H K M S J : Nat) (hH : H < 60) (hM : M < 60) (hS : S < 60) (hm : m ≤ 86399) (hK : K ≤ 2000) (hJ : J ≤ 4000) (q1 : (m : Int).tdiv 3600 = H) (q2 : (m : Int).tdiv 60 = K) (q3 : (K : Int).tmod 60 = M) (q4 : (m : Int).tmod 60 = 0) (q5 : (m : Int).tmod 3600 = J) (q6 : (J : Int).tdiv 60 = M) (hM0 : 0 < M) (hp : 0 < m) (o : Int) (ho : o = -(m : Int)) (w : World) : Calls Tryz.prog 5 #[.int .i64 o, .int .u8 120, .int .i64 4] w fun e w' => e = .returned (.tuple #[.string ⟨#[45, dA H, dB H, dA M, dB M]⟩, .int .i64 0]) ∧ Below w.heap.size w w' := by
  have TH := two_yes H hH
  have TM := two_yes M hM
  have g5 : ((M : Int) == 0) = false := beq_eq_false_iff_ne.2 (by omega)
  have g8 : ¬ M = 0 := by omega
  have g0 : ¬ o < -86399 := by omega
  have g1 : ¬ (86399 : Int) < o := by omega
  have g2 : o < 0 := by omega
  have g6 : (o == 0) = false := beq_eq_false_iff_ne.2 (by omega)
  have n1 : o.tdiv 3600 = -(H : Int) := by rw [ho, Int.neg_tdiv, q1]
  have n2 : o.tdiv 60 = -(K : Int) := by rw [ho, Int.neg_tdiv, q2]
  have n4 : o.tmod 3600 = -(J : Int) := by rw [ho, Int.neg_tmod, q5]
  have n3 : o.tmod 60 = 0 := by rw [ho, Int.neg_tmod, q4]; rfl
  have r1 : wrap64 (H : Int) = H := by simp only [wrap64]; omega
  have r2 : wrap64 (K : Int) = K := by simp only [wrap64]; omega
  have r4 : wrap64 (J : Int) = J := by simp only [wrap64]; omega
  have r3 : wrap64 (M : Int) = M := by simp only [wrap64]; omega
  clear hH hM hS hm hK hJ hM0 hp ho
  go_enter Tryz.func5, Tryz.ntmps5
  go_wp2_with fail
  refine (TH _).mono ?_
  rintro e v0 ⟨rfl, hb0⟩
  go_wp2_with fail
  refine (TM _).mono ?_
  rintro e v1 ⟨rfl, hb1⟩
  have hc1 := hb0.trans (hb1.mono hb0.size)
  clear hb0 hb1
  go_wp2_with fail
  go_ret2
  exact ⟨ret_twoPb rfl, hc1⟩
set_option maxHeartbeats 4000000 in
theorem c120x4nh (m H K M S J : Nat) (hH : H < 60) (hM : M < 60) (hS : S < 60) (hm : m ≤ 86399) (hK : K ≤ 2000) (hJ : J ≤ 4000) (q1 : (m : Int).tdiv 3600 = H) (q2 : (m : Int).tdiv 60 = K) (q3 : (K : Int).tmod 60 = 0) (q4 : (m : Int).tmod 60 = 0) (q5 : (m : Int).tmod 3600 = J) (q6 : (J : Int).tdiv 60 = 0) (hp : 0 < m) (o : Int) (ho : o = -(m : Int)) (w : World) : Calls Tryz.prog 5 #[.int .i64 o, .int .u8 120, .int .i64 4] w fun e w' => e = .returned (.tuple #[.string ⟨#[45, dA H, dB H, dA 0, dB 0]⟩, .int .i64 0]) ∧ Below w.heap.size w w' := by
  have TH := two_yes H hH
  have TM : ∀ w : World, Calls Tryz.prog 9 #[.int .i64 0] w fun e w' => e = .returned (.string ⟨#[dA 0, dB 0]⟩) ∧ Below w.heap.size w w' := two_yes 0 (by decide)
  have g0 : ¬ o < -86399 := by omega
  have g1 : ¬ (86399 : Int) < o := by omega
  have g2 : o < 0 := by omega
  have g6 : (o == 0) = false := beq_eq_false_iff_ne.2 (by omega)
  have n1 : o.tdiv 3600 = -(H : Int) := by rw [ho, Int.neg_tdiv, q1]
  have n2 : o.tdiv 60 = -(K : Int) := by rw [ho, Int.neg_tdiv, q2]
  have n4 : o.tmod 3600 = -(J : Int) := by rw [ho, Int.neg_tmod, q5]
  have n3 : o.tmod 60 = 0 := by rw [ho, Int.neg_tmod, q4]; rfl
  have r1 : wrap64 (H : Int) = H := by simp only [wrap64]; omega
  have r2 : wrap64 (K : Int) = K := by simp only [wrap64]; omega
  have r4 : wrap64 (J : Int) = J := by simp only [wrap64]; omega
  clear hH hM hS hm hK hJ hp ho
  go_enter Tryz.func5, Tryz.ntmps5
  go_wp2_with fail
  refine (TH _).mono ?_
  rintro e v0 ⟨rfl, hb0⟩
  go_wp2_with fail
  refine (TM _).mono ?_
  rintro e v1 ⟨rfl, hb1⟩
  have hc1 := hb0.trans (hb1.mono hb0.size)
  clear hb0 hb1
  go_wp2_with fail
  go_ret2
  exact ⟨ret_twoPb rfl, hc1⟩
set_option maxHeartbeats 4000000 in
theorem c120x5ps (m H K M S J : Nat) (hH : H < 60) (hM : M < 60) (hS : S < 60) (hm : m ≤ 86399) (hK : K ≤ 2000) (hJ : J ≤ 4000) (q1 : (m : Int).tdiv 3600 = H) (q2 : (m : Int).tdiv 60 = K) (q3 : (K : Int).tmod 60 = M) (q4 : (m : Int).tmod 60 = S) (q5 : (m : Int).tmod 3600 = J) (q6 : (J : Int).tdiv 60 = M) (hS0 : 0 < S) (hM0 : 0 < M) (w : World) : Calls Tryz.prog 5 #[.int .i64 m, .int .u8 120, .int .i64 5] w fun e w' => e = .returned (.tuple #[.string ⟨#[43, dA H, dB H, dA M, dB M, dA S, dB S]⟩, .int .i64 0]) ∧ Below w.heap.size w w' := by
  have TH := two_yes H hH
  have TM := two_yes M hM
  have TS := two_yes S hS
  have g3 : (0 : Int) < S := by omega
  have g4 : ((S : Int) == 0) = false := beq_eq_false_iff_ne.2 (by omega)
  have g7 : ¬ S = 0 := by omega
  have g5 : ((M : Int) == 0) = false := beq_eq_false_iff_ne.2 (by omega)
  have g8 : ¬ M = 0 := by omega
  have g0 : ¬ (m : Int) < -86399 := by omega
  have g1 : ¬ (86399 : Int) < m := by omega
  have g2 : ¬ (m : Int) < 0 := by omega
  have g6 : ((m : Int) == 0) = false := beq_eq_false_iff_ne.2 (fun h => by rw [h] at q4; simp at q4; omega)
  have r1 : wrap64 (H : Int) = H := by simp only [wrap64]; omega
  have r2 : wrap64 (K : Int) = K := by simp only [wrap64]; omega
  have r4 : wrap64 (J : Int) = J := by simp only [wrap64]; omega
  have r3 : wrap64 (M : Int) = M := by simp only [wrap64]; omega
  clear hH hM hS hm hK hJ hS0 hM0
  go_enter Tryz.func5, Tryz.ntmps5
  go_wp2_with fail
  refine (TH _).mono ?_
  rintro e v0 ⟨rfl, hb0⟩
  go_wp2_with fail
  refine (TM _).mono ?_
  rintro e v1 ⟨rfl, hb1⟩
  have hc1 := hb0.trans (hb1.mono hb0.size)
  clear hb0 hb1
  go_wp2_with fail
  refine (TS _).mono ?_
  rintro e v2 ⟨rfl, hb2⟩
  have hc2 := hc1.trans (hb2.mono hc1.size)
  clear hc1 hb2
  go_wp2_with fail
  go_ret2
  exact ⟨ret_twoPb rfl, hc2⟩
set_option maxHeartbeats 4000000 in
theorem c120x5pt (m H K M S J : Nat) (hH : H < 60) (hM : M < 60) (hS : S < 60) (hm : m ≤ 86399) (hK : K ≤ 2000) (hJ : J ≤ 4000) (q1 : (m : Int).tdiv 3600 = H) (q2 : (m : Int).tdiv 60 = K) (q3 : (K : Int).tmod 60 = 0) (q4 : (m : Int).tmod 60 = S) (q5 : (m : Int).tmod 3600 = J) (q6 : (J : Int).tdiv 60 = 0) (hS0 : 0 < S) (w : World) : Calls Tryz.prog 5 #[.int .i64 m, .int .u8 120, .int .i64 5] w fun e w' => e = .returned (.tuple #[.string ⟨#[43, dA H, dB H, dA 0, dB 0, dA S, dB S]⟩, .int .i64 0]) ∧ Below w.heap.size w w' := by
  have TH := two_yes H hH
  have TM : ∀ w : World, Calls Tryz.prog 9 #[.int .i64 0] w fun e w' => e = .returned (.string ⟨#[dA 0, dB 0]⟩) ∧ Below w.heap.size w w' := two_yes 0 (by decide)
  have TS := two_yes S hS
  have g3 : (0 : Int) < S := by omega
  have g4 : ((S : Int) == 0) = false := beq_eq_false_iff_ne.2 (by omega)
  have g7 : ¬ S = 0 := by omega
  have g0 : ¬ (m : Int) < -86399 := by omega
  have g1 : ¬ (86399 : Int) < m := by omega
  have g2 : ¬ (m : Int) < 0 := by omega
  have g6 : ((m : Int) == 0) = false := beq_eq_false_iff_ne.2 (fun h => by rw [h] at q4; simp at q4; omega)
  have r1 : wrap64 (H : Int) = H := by simp only [wrap64]; omega
  have r2 : wrap64 (K : Int) = K := by simp only [wrap64]; omega
  have r4 : wrap64 (J : Int) = J := by simp only [wrap64]; omega
  clear hH hM hS hm hK hJ hS0
  go_enter Tryz.func5, Tryz.ntmps5
  go_wp2_with fail
  refine (TH _).mono ?_
  rintro e v0 ⟨rfl, hb0⟩
  go_wp2_with fail
  refine (TM _).mono ?_
  rintro e v1 ⟨rfl, hb1⟩
  have hc1 := hb0.trans (hb1.mono hb0.size)
  clear hb0 hb1
  go_wp2_with fail
  refine (TS _).mono ?_
  rintro e v2 ⟨rfl, hb2⟩
  have hc2 := hc1.trans (hb2.mono hc1.size)
  clear hc1 hb2
  go_wp2_with fail
  go_ret2
  exact ⟨ret_twoPb rfl, hc2⟩
set_option maxHeartbeats 4000000 in
theorem c120x5pm (m H K M S J : Nat) (hH : H < 60) (hM : M < 60) (hS : S < 60) (hm : m ≤ 86399) (hK : K ≤ 2000) (hJ : J ≤ 4000) (q1 : (m : Int).tdiv 3600 = H) (q2 : (m : Int).tdiv 60 = K) (q3 : (K : Int).tmod 60 = M) (q4 : (m : Int).tmod 60 = 0) (q5 : (m : Int).tmod 3600 = J) (q6 : (J : Int).tdiv 60 = M) (hM0 : 0 < M) (w : World) : Calls Tryz.prog 5 #[.int .i64 m, .int .u8 120, .int .i64 5] w fun e w' => e = .returned (.tuple #[.string ⟨#[43, dA H, dB H, dA M, dB M]⟩, .int .i64 0]) ∧ Below w.heap.size w w' := by
  have TH := two_yes H hH
  have TM := two_yes M hM
  have g5 : ((M : Int) == 0) = false := beq_eq_false_iff_ne.2 (by omega)
  have g8 : ¬ M = 0 := by omega
  have g0 : ¬ (m : Int) < -86399 := by omega
  have g1 : ¬ (86399 : Int) < m := by omega
  have g2 : ¬ (m : Int) < 0 := by omega
  have g6 : ((m : Int) == 0) = false := beq_eq_false_iff_ne.2 (fun h => by rw [h] at q2; simp at q2; rw [← q2] at q3; simp at q3; omega)
  have r1 : wrap64 (H : Int) = H := by simp only [wrap64]; omega
  have r2 : wrap64 (K : Int) = K := by simp only [wrap64]; omega
  have r4 : wrap64 (J : Int) = J := by simp only [wrap64]; omega
  have r3 : wrap64 (M : Int) = M := by simp only [wrap64]; omega
  clear hH hM hS hm hK hJ hM0
  go_enter Tryz.func5, Tryz.ntmps5
  go_wp2_with fail
  refine (TH _).mono ?_
  rintro e v0 ⟨rfl, hb0⟩
  go_wp2_with fail
  refine (TM _).mono ?_
  rintro e v1 ⟨rfl, hb1⟩
  have hc1 := hb0.trans (hb1.mono hb0.size)
  clear hb0 hb1
  go_wp2_with fail
  go_ret2
  exact ⟨ret_twoPb rfl, hc1⟩
set_option maxHeartbeats 4000000 in
theorem c120x5ph (m H K M S J : Nat) (hH : H < 60) (hM : M < 60) (hS : S < 60) (hm : m ≤ 86399) (hK : K ≤ 2000) (hJ : J ≤ 4000) (q1 : (m : Int).tdiv 3600 = H) (q2 : (m : Int).tdiv 60 = K) (q3 : (K : Int).tmod 60 = 0) (q4 : (m : Int).tmod 60 = 0) (q5 : (m : Int).tmod 3600 = J) (q6 : (J : Int).tdiv 60 = 0) (hp : 0 < m) (w : World) : Calls Tryz.prog 5 #[.int .i64 m, .int .u8 120, .int .i64 5] w fun e w' => e = .returned (.tuple #[.string ⟨#[43, dA H, dB H, dA 0, dB 0]⟩, .int .i64 0]) ∧ Below w.heap.size w w' := by
  have TH := two_yes H hH
  have TM : ∀ w : World, Calls Tryz.prog 9 #[.int .i64 0] w fun e w' => e = .returned (.string ⟨#[dA 0, dB 0]⟩) ∧ Below w.heap.size w w' := two_yes 0 (by decide)
  have g0 : ¬ (m : Int) < -86399 := by omega
  have g1 : ¬ (86399 : Int) < m := by omega
  have g2 : ¬ (m : Int) < 0 := by omega
  have g6 : ((m : Int) == 0) = false := beq_eq_false_iff_ne.2 (by omega)
  have r1 : wrap64 (H : Int) = H := by simp only [wrap64]; omega
  have r2 : wrap64 (K : Int) = K := by simp only [wrap64]; omega
  have r4 : wrap64 (J : Int) = J := by simp only [wrap64]; omega
  clear hH hM hS hm hK hJ hp
  go_enter Tryz.func5, Tryz.ntmps5
  go_wp2_with fail
  refine (TH _).mono ?_
  rintro e v0 ⟨rfl, hb0⟩
  go_wp2_with fail
  refine (TM _).mono ?_
  rintro e v1 ⟨rfl, hb1⟩
  have hc1 := hb0.trans (hb1.mono hb0.size)
  clear hb0 hb1
  go_wp2_with fail
  go_ret2
  exact ⟨ret_twoPb rfl, hc1⟩
set_option maxHeartbeats 4000000 in
theorem c120x5pz  (w : World) : Calls Tryz.prog 5 #[.int .i64 0, .int .u8 120, .int .i64 5] w fun e w' => e = .returned (.tuple #[.string ⟨#[43, dA 0, dB 0, dA 0, dB 0]⟩, .int .i64 0]) ∧ Below w.heap.size w w' := by
  have TH : ∀ w : World, Calls Tryz.prog 9 #[.int .i64 0] w fun e w' => e = .returned (.string ⟨#[dA 0, dB 0]⟩) ∧ Below w.heap.size w w' := two_yes 0 (by decide)
  have TM := TH
  go_enter Tryz.func5, Tryz.ntmps5
  go_wp2_with fail
  refine (TH _).mono ?_
  rintro e v0 ⟨rfl, hb0⟩
  go_wp2_with fail
  refine (TM _).mono ?_
  rintro e v1 ⟨rfl, hb1⟩
  have hc1 := hb0.trans (hb1.mono hb0.size)
  clear hb0 hb1
  go_wp2_with fail
  go_ret2
  exact ⟨ret_twoPb rfl, hc1⟩
set_option maxHeartbeats 4000000 in
theorem c120x5ns (m H K M S J : Nat) (hH : H < 60) (hM : M < 60) (hS : S < 60) (hm : m ≤ 86399) (hK : K ≤ 2000) (hJ : J ≤ 4000) (q1 : (m : Int).tdiv 3600 = H) (q2 : (m : Int).tdiv 60 = K) (q3 : (K : Int).tmod 60 = M) (q4 : (m : Int).tmod 60 = S) (q5 : (m : Int).tmod 3600 = J) (q6 : (J : Int).tdiv 60 = M) (hS0 : 0 < S) (hM0 : 0 < M) (hp : 0 < m) (o : Int) (ho : o = -(m : Int)) (w : World) : Calls Tryz.prog 5 #[.int .i64 o, .int .u8 120, .int .i64 5] w fun e w' => e = .returned (.tuple #[.string ⟨#[45, dA H, dB H, dA M, dB M, dA S, dB S]⟩, .int .i64 0]) ∧ Below w.heap.size w w' := by
  have TH := two_yes H hH
  have TM := two_yes M hM
  have TS := two_yes S hS
  have g3 : (0 : Int) < S := by omega
  have g4 : ((S : Int) == 0) = false := beq_eq_false_iff_ne.2 (by omega)
  have g7 : ¬ S = 0 := by omega
  have g5 : ((M : Int) == 0) = false := beq_eq_false_iff_ne.2 (by omega)
  have g8 : ¬ M = 0 := by omega
  have g0 : ¬ o < -86399 := by omega
  have g1 : ¬ (86399 : Int) < o := by omega
  have g2 : o < 0 := by omega
  have g6 : (o == 0) = false := beq_eq_false_iff_ne.2 (by omega)
  have n1 : o.tdiv 3600 = -(H : Int) := by rw [ho, Int.neg_tdiv, q1]
  have n2 : o.tdiv 60 = -(K : Int) := by rw [ho, Int.neg_tdiv, q2]
  have n4 : o.tmod 3600 = -(J : Int) := by rw [ho, Int.neg_tmod, q5]
  have n3 : o.tmod 60 = -(S : Int) := by rw [ho, Int.neg_tmod, q4]
  have r1 : wrap64 (H : Int) = H := by simp only [wrap64]; omega
  have r2 : wrap64 (K : Int) = K := by simp only [wrap64]; omega
  have r4 : wrap64 (J : Int) = J := by simp only [wrap64]; omega
  have r3 : wrap64 (M : Int) = M := by simp only [wrap64]; omega
  clear hH hM hS hm hK hJ hS0 hM0 hp ho
  go_enter Tryz.func5, Tryz.ntmps5
  go_wp2_with fail
  refine (TH _).mono ?_
  rintro e v0 ⟨rfl, hb0⟩
  go_wp2_with fail
  refine (TM _).mono ?_
  rintro e v1 ⟨rfl, hb1⟩
  have hc1 := hb0.trans (hb1.mono hb0.size)
  clear hb0 hb1
  go_wp2_with fail
  refine (TS _).mono ?_
  rintro e v2 ⟨rfl, hb2⟩
  have hc2 := hc1.trans (hb2.mono hc1.size)
  clear hc1 hb2
  go_wp2_with fail
  go_ret2
  exact ⟨ret_twoPb rfl, hc2⟩
set_option maxHeartbeats 4000000 in
theorem c120x5nt (m H K M S J : Nat) (hH : H < 60) (hM : M < 60) (hS : S < 60) (hm : m ≤ 86399) (hK : K ≤ 2000) (hJ : J ≤ 4000) (q1 : (m : Int).tdiv 3600 = H) (q2 : (m : Int).tdiv 60 = K) (q3 : (K : Int).tmod 60 = 0) (q4 : (m : Int).tmod 60 = S) (q5 : (m : Int).tmod 3600 = J) (q6 : (J : Int).tdiv 60 = 0) (hS0 : 0 < S) (hp : 0 < m) (o : Int) (ho : o = -(m : Int)) (w : World) : Calls Tryz.prog 5 #[.int .i64 o, .int .u8 120, .int .i64 5] w fun e w' => e = .returned (.tuple #[.string ⟨#[45, dA H, dB H, dA 0, dB 0, dA S, dB S]⟩, .int .i64 0]) ∧ Below w.heap.size w w' := by
  have TH := two_yes H hH
  have TM : ∀ w : World, Calls Tryz.prog 9 #[.int .i64 0] w fun e w' => e = .returned (.string ⟨#[dA 0, dB 0]⟩) ∧ Below w.heap.size w w' := two_yes 0 (by decide)
  have TS := two_yes S hS
  have g3 : (0 : Int) < S := by omega
  have g4 : ((S : Int) == 0) = false := beq_eq_false_iff_ne.2 (by omega)
  have g7 : ¬ S = 0 := by omega
  have g0 : ¬ o < -86399 := by omega
  have g1 : ¬ (86399 : Int) < o := by omega
  have g2 : o < 0 := by omega
  have g6 : (o == 0) = false := beq_eq_false_iff_ne.2 (by omega)
  have n1 : o.tdiv 3600 = -(H : Int) := by rw [ho, Int.neg_tdiv, q1]
  have n2 : o.tdiv 60 = -(K : Int) := by rw [ho, Int.neg_tdiv, q2]
  have n4 : o.tmod 3600 = -(J : Int) := by rw [ho, Int.neg_tmod, q5]
  have n3 : o.tmod 60 = -(S : Int) := by rw [ho, Int.neg_tmod, q4]
  have r1 : wrap64 (H : Int) = H := by simp only [wrap64]; omega
  have r2 : wrap64 (K : Int) = K := by simp only [wrap64]; omega
  have r4 : wrap64 (J : Int) = J := by simp only [wrap64]; omega
  clear hH hM hS hm hK hJ hS0 hp ho
  go_enter Tryz.func5, Tryz.ntmps5
  go_wp2_with fail
  refine (TH _).mono ?_
  rintro e v0 ⟨rfl, hb0⟩
  go_wp2_with fail
  refine (TM _).mono ?_
  rintro e v1 ⟨rfl, hb1⟩
  have hc1 := hb0.trans (hb1.mono hb0.size)
  clear hb0 hb1
  go_wp2_with fail
  refine (TS _).mono ?_
  rintro e v2 ⟨rfl, hb2⟩
  have hc2 := hc1.trans (hb2.mono hc1.size)
  clear hc1 hb2
  go_wp2_with fail
  go_ret2
  exact ⟨ret_twoPb rfl, hc2⟩
set_option maxHeartbeats 4000000 in
theorem c120x5nm (m H K M S J : Nat) (hH : H < 60) (hM : M < 60) (hS : S < 60) (hm : m ≤ 86399) (hK : K ≤ 2000) (hJ : J ≤ 4000) (q1 : (m : Int).tdiv 3600 = H) (q2 : (m : Int).tdiv 60 = K) (q3 : (K : Int).tmod 60 = M) (q4 : (m : Int).tmod 60 = 0) (q5 : (m : Int).tmod 3600 = J) (q6 : (J : Int).tdiv 60 = M) (hM0 : 0 < M) (hp : 0 < m) (o : Int) (ho : o = -(m : Int)) (w : World) : Calls Tryz.prog 5 #[.int .i64 o, .int .u8 120, .int .i64 5] w fun e w' => e = .returned (.tuple #[.string ⟨#[45, dA H, dB H, dA M, dB M]⟩, .int .i64 0]) ∧ Below w.heap.size w w' := by
  have TH := two_yes H hH
  have TM := two_yes M hM
  have g5 : ((M : Int) == 0) = false := beq_eq_false_iff_ne.2 (by omega)
  have g8 : ¬ M = 0 := by omega
  have g0 : ¬ o < -86399 := by omega
  have g1 : ¬ (86399 : Int) < o := by omega
  have g2 : o < 0 := by omega
  have g6 : (o == 0) = false := beq_eq_false_iff_ne.2 (by omega)
  have n1 : o.tdiv 3600 = -(H : Int) := by rw [ho, Int.neg_tdiv, q1]
  have n2 : o.tdiv 60 = -(K : Int) := by rw [ho, Int.neg_tdiv, q2]
  have n4 : o.tmod 3600 = -(J : Int) := by rw [ho, Int.neg_tmod, q5]
  have n3 : o.tmod 60 = 0 := by rw [ho, Int.neg_tmod, q4]; rfl
  have r1 : wrap64 (H : Int) = H := by simp only [wrap64]; omega
  have r2 : wrap64 (K : Int) = K := by simp only [wrap64]; omega
  have r4 : wrap64 (J : Int) = J := by simp only [wrap64]; omega
  have r3 : wrap64 (M : Int) = M := by simp only [wrap64]; omega
  clear hH hM hS hm hK hJ hM0 hp ho
  go_enter Tryz.func5, Tryz.ntmps5
  go_wp2_with fail
  refine (TH _).mono ?_
  rintro e v0 ⟨rfl, hb0⟩
  go_wp2_with fail
  refine (TM _).mono ?_
  rintro e v1 ⟨rfl, hb1⟩
  have hc1 := hb0.trans (hb1.mono hb0.size)
  clear hb0 hb1
  go_wp2_with fail
  go_ret2
  exact ⟨ret_twoPb rfl, hc1⟩
set_option maxHeartbeats 4000000 in
theorem c120x5nh (m H K M S J : Nat) (hH : H < 60) (hM : M < 60) (hS : S < 60) (hm : m ≤ 86399) (hK : K ≤ 2000) (hJ : J ≤ 4000) (q1 : (m : Int).tdiv 3600 = H) (q2 : (m : Int).tdiv 60 = K) (q3 : (K : Int).tmod 60 = 0) (q4 : (m : Int).tmod 60 = 0) (q5 : (m : Int).tmod 3600 = J) (q6 : (J : Int).tdiv 60 = 0) (hp : 0 < m) (o : Int) (ho : o = -(m : Int)) (w : World) : Calls Tryz.prog 5 #[.int .i64 o, .int .u8 120, .int .i64 5] w fun e w' => e = .returned (.tuple #[.string ⟨#[45, dA H, dB H, dA 0, dB 0]⟩, .int .i64 0]) ∧ Below w.heap.size w w' := by
  have TH := two_yes H hH
  have TM : ∀ w : World, Calls Tryz.prog 9 #[.int .i64 0] w fun e w' => e = .returned (.string ⟨#[dA 0, dB 0]⟩) ∧ Below w.heap.size w w' := two_yes 0 (by decide)
  have g0 : ¬ o < -86399 := by omega
  have g1 : ¬ (86399 : Int) < o := by omega
  have g2 : o < 0 := by omega
  have g6 : (o == 0) = false := beq_eq_false_iff_ne.2 (by omega)
  have n1 : o.tdiv 3600 = -(H : Int) := by rw [ho, Int.neg_tdiv, q1]
  have n2 : o.tdiv 60 = -(K : Int) := by rw [ho, Int.neg_tdiv, q2]
  have n4 : o.tmod 3600 = -(J : Int) := by rw [ho, Int.neg_tmod, q5]
  have n3 : o.tmod 60 = 0 := by rw [ho, Int.neg_tmod, q4]; rfl
  have r1 : wrap64 (H : Int) = H := by simp only [wrap64]; omega
  have r2 : wrap64 (K : Int) = K := by simp only [wrap64]; omega
  have r4 : wrap64 (J : Int) = J := by simp only [wrap64]; omega
  clear hH hM hS hm hK hJ hp ho
  go_enter Tryz.func5, Tryz.ntmps5
  go_wp2_with fail
  refine (TH _).mono ?_
  rintro e v0 ⟨rfl, hb0⟩
  go_wp2_with fail
  refine (TM _).mono ?_
  rintro e v1 ⟨rfl, hb1⟩
  have hc1 := hb0.trans (hb1.mono hb0.size)
  clear hb0 hb1
  go_wp2_with fail
  go_ret2
  exact ⟨ret_twoPb rfl, hc1⟩
end Go.Proofs.YtmhgnbfpbfekaaaGreatDoor
