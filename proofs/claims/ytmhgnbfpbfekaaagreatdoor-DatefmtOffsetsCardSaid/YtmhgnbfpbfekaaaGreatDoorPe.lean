/-
  The walk of DatefmtOffsets. Condition: what the listed variables hold.
-/
import Derived.Test.YtmhgnbfpbfekaaaGreatDoorPa
import Derived.Test.YtmhgnbfpbfekaaaGreatDoorPb
import Derived.Test.YtmhgnbfpbfekaaaGreatDoorPc
import Derived.Test.YtmhgnbfpbfekaaaGreatDoorPd
import Derived.Lib.SmallJoins
namespace Go.Proofs.YtmhgnbfpbfekaaaGreatDoor
open Go.RowKit
/-- What both come to. -/
def Both (o l c : Int) : Prop := ∃ V : ByteArray, (∀ w : World, Calls Tryz.prog 5 #[.int .i64 o, .int .u8 l, .int .i64 c] w fun e w' => e = .returned (.tuple #[.string V, .int .i64 0]) ∧ Below w.heap.size w w') ∧
  ∀ w : World, Calls Tryz.prog 6 #[.int .i64 o, .int .u8 l, .int .i64 c] w fun e w' => e = .returned (.string V) ∧ Below w.heap.size w w'
structure Facts (m H K M S J : Nat) : Prop where
  hH : H < 60
  hM : M < 60
  hS : S < 60
  hm : m ≤ 86399
  hK : K ≤ 2000
  hJ : J ≤ 4000
  q1 : (m : Int).tdiv 3600 = H
  q2 : (m : Int).tdiv 60 = K
  q3 : (K : Int).tmod 60 = M
  q4 : (m : Int).tmod 60 = S
  q5 : (m : Int).tmod 3600 = J
  q6 : (J : Int).tdiv 60 = M
theorem facts_of (m : Nat) (h : m ≤ 86399) : Facts m (m / 3600) (m / 60) (m / 60 % 60) (m % 60) (m % 3600) where
  hH := by omega
  hM := by omega
  hS := by omega
  hm := h
  hK := by omega
  hJ := by omega
  q1 := by rw [Int.tdiv_eq_ediv_of_nonneg (by omega)]; omega
  q2 := by rw [Int.tdiv_eq_ediv_of_nonneg (by omega)]; omega
  q3 := by rw [Int.tmod_eq_emod_of_nonneg (by omega)]; omega
  q4 := by rw [Int.tmod_eq_emod_of_nonneg (by omega)]; omega
  q5 := by rw [Int.tmod_eq_emod_of_nonneg (by omega)]; omega
  q6 := by rw [Int.tdiv_eq_ediv_of_nonneg (by omega)]; omega
theorem both90x1 (o : Int) (h0 : -86399 ≤ o) (h1 : o ≤ 86399) : Both o 90 1 := by
  by_cases hn : o < 0
  · obtain ⟨m, rfl⟩ : ∃ m : Nat, o = -(m : Int) := ⟨o.natAbs, by omega⟩
    have F := facts_of m (by omega)
    generalize m / 3600 = H at F
    generalize m % 3600 = J at F
    generalize m / 60 % 60 = M at F
    generalize m / 60 = K at F
    generalize m % 60 = S at F
    obtain ⟨a1, a2, a3, a4, a5, a6, q1, q2, q3, q4, q5, q6⟩ := F
    have hp : 0 < m := by omega
    rcases Nat.eq_zero_or_pos S with hS | hS0
    · subst hS
      rcases Nat.eq_zero_or_pos M with hM | hM0
      · subst hM
        exact ⟨_, fun w => c90x1nh m H K 0 0 J a1 a2 a3 a4 a5 a6 q1 q2 q3 q4 q5 q6 hp (-(m : Int)) rfl w, fun w => r90x1nh m H K 0 0 J a1 a2 a3 a4 a5 a6 q1 q2 q3 q4 q5 q6 hp (-(m : Int)) rfl w⟩
      · exact ⟨_, fun w => c90x1nm m H K M 0 J a1 a2 a3 a4 a5 a6 q1 q2 q3 q4 q5 q6 hM0 hp (-(m : Int)) rfl w, fun w => r90x1nm m H K M 0 J a1 a2 a3 a4 a5 a6 q1 q2 q3 q4 q5 q6 hM0 hp (-(m : Int)) rfl w⟩
    · rcases Nat.eq_zero_or_pos M with hM | hM0
      · subst hM
        exact ⟨_, fun w => c90x1nt m H K 0 S J a1 a2 a3 a4 a5 a6 q1 q2 q3 q4 q5 q6 hS0 hp (-(m : Int)) rfl w, fun w => r90x1nt m H K 0 S J a1 a2 a3 a4 a5 a6 q1 q2 q3 q4 q5 q6 hS0 hp (-(m : Int)) rfl w⟩
      · exact ⟨_, fun w => c90x1ns m H K M S J a1 a2 a3 a4 a5 a6 q1 q2 q3 q4 q5 q6 hS0 hM0 hp (-(m : Int)) rfl w, fun w => r90x1ns m H K M S J a1 a2 a3 a4 a5 a6 q1 q2 q3 q4 q5 q6 hS0 hM0 hp (-(m : Int)) rfl w⟩
  · obtain ⟨m, rfl⟩ : ∃ m : Nat, o = (m : Int) := ⟨o.natAbs, by omega⟩
    have F := facts_of m (by omega)
    generalize m / 3600 = H at F
    generalize m % 3600 = J at F
    generalize m / 60 % 60 = M at F
    generalize m / 60 = K at F
    generalize m % 60 = S at F
    obtain ⟨a1, a2, a3, a4, a5, a6, q1, q2, q3, q4, q5, q6⟩ := F
    rcases Nat.eq_zero_or_pos S with hS | hS0
    · subst hS
      rcases Nat.eq_zero_or_pos M with hM | hM0
      · subst hM
        rcases Nat.eq_zero_or_pos m with hz | hp
        · subst hz
          exact ⟨_, fun w => c90x1pz w, fun w => r90x1pz w⟩
        · exact ⟨_, fun w => c90x1ph m H K 0 0 J a1 a2 a3 a4 a5 a6 q1 q2 q3 q4 q5 q6 hp w, fun w => r90x1ph m H K 0 0 J a1 a2 a3 a4 a5 a6 q1 q2 q3 q4 q5 q6 hp w⟩
      · exact ⟨_, fun w => c90x1pm m H K M 0 J a1 a2 a3 a4 a5 a6 q1 q2 q3 q4 q5 q6 hM0 w, fun w => r90x1pm m H K M 0 J a1 a2 a3 a4 a5 a6 q1 q2 q3 q4 q5 q6 hM0 w⟩
    · rcases Nat.eq_zero_or_pos M with hM | hM0
      · subst hM
        exact ⟨_, fun w => c90x1pt m H K 0 S J a1 a2 a3 a4 a5 a6 q1 q2 q3 q4 q5 q6 hS0 w, fun w => r90x1pt m H K 0 S J a1 a2 a3 a4 a5 a6 q1 q2 q3 q4 q5 q6 hS0 w⟩
      · exact ⟨_, fun w => c90x1ps m H K M S J a1 a2 a3 a4 a5 a6 q1 q2 q3 q4 q5 q6 hS0 hM0 w, fun w => r90x1ps m H K M S J a1 a2 a3 a4 a5 a6 q1 q2 q3 q4 q5 q6 hS0 hM0 w⟩
theorem both90x2 (o : Int) (h0 : -86399 ≤ o) (h1 : o ≤ 86399) : Both o 90 2 := by
  by_cases hn : o < 0
  · obtain ⟨m, rfl⟩ : ∃ m : Nat, o = -(m : Int) := ⟨o.natAbs, by omega⟩
    have F := facts_of m (by omega)
    generalize m / 3600 = H at F
    generalize m % 3600 = J at F
    generalize m / 60 % 60 = M at F
    generalize m / 60 = K at F
    generalize m % 60 = S at F
    obtain ⟨a1, a2, a3, a4, a5, a6, q1, q2, q3, q4, q5, q6⟩ := F
    have hp : 0 < m := by omega
    rcases Nat.eq_zero_or_pos S with hS | hS0
    · subst hS
      rcases Nat.eq_zero_or_pos M with hM | hM0
      · subst hM
        exact ⟨_, fun w => c90x2nh m H K 0 0 J a1 a2 a3 a4 a5 a6 q1 q2 q3 q4 q5 q6 hp (-(m : Int)) rfl w, fun w => r90x2nh m H K 0 0 J a1 a2 a3 a4 a5 a6 q1 q2 q3 q4 q5 q6 hp (-(m : Int)) rfl w⟩
      · exact ⟨_, fun w => c90x2nm m H K M 0 J a1 a2 a3 a4 a5 a6 q1 q2 q3 q4 q5 q6 hM0 hp (-(m : Int)) rfl w, fun w => r90x2nm m H K M 0 J a1 a2 a3 a4 a5 a6 q1 q2 q3 q4 q5 q6 hM0 hp (-(m : Int)) rfl w⟩
    · rcases Nat.eq_zero_or_pos M with hM | hM0
      · subst hM
        exact ⟨_, fun w => c90x2nt m H K 0 S J a1 a2 a3 a4 a5 a6 q1 q2 q3 q4 q5 q6 hS0 hp (-(m : Int)) rfl w, fun w => r90x2nt m H K 0 S J a1 a2 a3 a4 a5 a6 q1 q2 q3 q4 q5 q6 hS0 hp (-(m : Int)) rfl w⟩
      · exact ⟨_, fun w => c90x2ns m H K M S J a1 a2 a3 a4 a5 a6 q1 q2 q3 q4 q5 q6 hS0 hM0 hp (-(m : Int)) rfl w, fun w => r90x2ns m H K M S J a1 a2 a3 a4 a5 a6 q1 q2 q3 q4 q5 q6 hS0 hM0 hp (-(m : Int)) rfl w⟩
  · obtain ⟨m, rfl⟩ : ∃ m : Nat, o = (m : Int) := ⟨o.natAbs, by omega⟩
    have F := facts_of m (by omega)
    generalize m / 3600 = H at F
    generalize m % 3600 = J at F
    generalize m / 60 % 60 = M at F
    generalize m / 60 = K at F
    generalize m % 60 = S at F
    obtain ⟨a1, a2, a3, a4, a5, a6, q1, q2, q3, q4, q5, q6⟩ := F
    rcases Nat.eq_zero_or_pos S with hS | hS0
    · subst hS
      rcases Nat.eq_zero_or_pos M with hM | hM0
      · subst hM
        rcases Nat.eq_zero_or_pos m with hz | hp
        · subst hz
          exact ⟨_, fun w => c90x2pz w, fun w => r90x2pz w⟩
        · exact ⟨_, fun w => c90x2ph m H K 0 0 J a1 a2 a3 a4 a5 a6 q1 q2 q3 q4 q5 q6 hp w, fun w => r90x2ph m H K 0 0 J a1 a2 a3 a4 a5 a6 q1 q2 q3 q4 q5 q6 hp w⟩
      · exact ⟨_, fun w => c90x2pm m H K M 0 J a1 a2 a3 a4 a5 a6 q1 q2 q3 q4 q5 q6 hM0 w, fun w => r90x2pm m H K M 0 J a1 a2 a3 a4 a5 a6 q1 q2 q3 q4 q5 q6 hM0 w⟩
    · rcases Nat.eq_zero_or_pos M with hM | hM0
      · subst hM
        exact ⟨_, fun w => c90x2pt m H K 0 S J a1 a2 a3 a4 a5 a6 q1 q2 q3 q4 q5 q6 hS0 w, fun w => r90x2pt m H K 0 S J a1 a2 a3 a4 a5 a6 q1 q2 q3 q4 q5 q6 hS0 w⟩
      · exact ⟨_, fun w => c90x2ps m H K M S J a1 a2 a3 a4 a5 a6 q1 q2 q3 q4 q5 q6 hS0 hM0 w, fun w => r90x2ps m H K M S J a1 a2 a3 a4 a5 a6 q1 q2 q3 q4 q5 q6 hS0 hM0 w⟩
theorem both90x3 (o : Int) (h0 : -86399 ≤ o) (h1 : o ≤ 86399) : Both o 90 3 := by
  by_cases hn : o < 0
  · obtain ⟨m, rfl⟩ : ∃ m : Nat, o = -(m : Int) := ⟨o.natAbs, by omega⟩
    have F := facts_of m (by omega)
    generalize m / 3600 = H at F
    generalize m % 3600 = J at F
    generalize m / 60 % 60 = M at F
    generalize m / 60 = K at F
    generalize m % 60 = S at F
    obtain ⟨a1, a2, a3, a4, a5, a6, q1, q2, q3, q4, q5, q6⟩ := F
    have hp : 0 < m := by omega
    rcases Nat.eq_zero_or_pos S with hS | hS0
    · subst hS
      rcases Nat.eq_zero_or_pos M with hM | hM0
      · subst hM
        exact ⟨_, fun w => c90x3nh m H K 0 0 J a1 a2 a3 a4 a5 a6 q1 q2 q3 q4 q5 q6 hp (-(m : Int)) rfl w, fun w => r90x3nh m H K 0 0 J a1 a2 a3 a4 a5 a6 q1 q2 q3 q4 q5 q6 hp (-(m : Int)) rfl w⟩
      · exact ⟨_, fun w => c90x3nm m H K M 0 J a1 a2 a3 a4 a5 a6 q1 q2 q3 q4 q5 q6 hM0 hp (-(m : Int)) rfl w, fun w => r90x3nm m H K M 0 J a1 a2 a3 a4 a5 a6 q1 q2 q3 q4 q5 q6 hM0 hp (-(m : Int)) rfl w⟩
    · rcases Nat.eq_zero_or_pos M with hM | hM0
      · subst hM
        exact ⟨_, fun w => c90x3nt m H K 0 S J a1 a2 a3 a4 a5 a6 q1 q2 q3 q4 q5 q6 hS0 hp (-(m : Int)) rfl w, fun w => r90x3nt m H K 0 S J a1 a2 a3 a4 a5 a6 q1 q2 q3 q4 q5 q6 hS0 hp (-(m : Int)) rfl w⟩
      · exact ⟨_, fun w => c90x3ns m H K M S J a1 a2 a3 a4 a5 a6 q1 q2 q3 q4 q5 q6 hS0 hM0 hp (-(m : Int)) rfl w, fun w => r90x3ns m H K M S J a1 a2 a3 a4 a5 a6 q1 q2 q3 q4 q5 q6 hS0 hM0 hp (-(m : Int)) rfl w⟩
  · obtain ⟨m, rfl⟩ : ∃ m : Nat, o = (m : Int) := ⟨o.natAbs, by omega⟩
    have F := facts_of m (by omega)
    generalize m / 3600 = H at F
    generalize m % 3600 = J at F
    generalize m / 60 % 60 = M at F
    generalize m / 60 = K at F
    generalize m % 60 = S at F
    obtain ⟨a1, a2, a3, a4, a5, a6, q1, q2, q3, q4, q5, q6⟩ := F
    rcases Nat.eq_zero_or_pos S with hS | hS0
    · subst hS
      rcases Nat.eq_zero_or_pos M with hM | hM0
      · subst hM
        rcases Nat.eq_zero_or_pos m with hz | hp
        · subst hz
          exact ⟨_, fun w => c90x3pz w, fun w => r90x3pz w⟩
        · exact ⟨_, fun w => c90x3ph m H K 0 0 J a1 a2 a3 a4 a5 a6 q1 q2 q3 q4 q5 q6 hp w, fun w => r90x3ph m H K 0 0 J a1 a2 a3 a4 a5 a6 q1 q2 q3 q4 q5 q6 hp w⟩
      · exact ⟨_, fun w => c90x3pm m H K M 0 J a1 a2 a3 a4 a5 a6 q1 q2 q3 q4 q5 q6 hM0 w, fun w => r90x3pm m H K M 0 J a1 a2 a3 a4 a5 a6 q1 q2 q3 q4 q5 q6 hM0 w⟩
    · rcases Nat.eq_zero_or_pos M with hM | hM0
      · subst hM
        exact ⟨_, fun w => c90x3pt m H K 0 S J a1 a2 a3 a4 a5 a6 q1 q2 q3 q4 q5 q6 hS0 w, fun w => r90x3pt m H K 0 S J a1 a2 a3 a4 a5 a6 q1 q2 q3 q4 q5 q6 hS0 w⟩
      · exact ⟨_, fun w => c90x3ps m H K M S J a1 a2 a3 a4 a5 a6 q1 q2 q3 q4 q5 q6 hS0 hM0 w, fun w => r90x3ps m H K M S J a1 a2 a3 a4 a5 a6 q1 q2 q3 q4 q5 q6 hS0 hM0 w⟩
theorem both90x4 (o : Int) (h0 : -86399 ≤ o) (h1 : o ≤ 86399) : Both o 90 4 := by
  by_cases hn : o < 0
  · obtain ⟨m, rfl⟩ : ∃ m : Nat, o = -(m : Int) := ⟨o.natAbs, by omega⟩
    have F := facts_of m (by omega)
    generalize m / 3600 = H at F
    generalize m % 3600 = J at F
    generalize m / 60 % 60 = M at F
    generalize m / 60 = K at F
    generalize m % 60 = S at F
    obtain ⟨a1, a2, a3, a4, a5, a6, q1, q2, q3, q4, q5, q6⟩ := F
    have hp : 0 < m := by omega
    rcases Nat.eq_zero_or_pos S with hS | hS0
    · subst hS
      rcases Nat.eq_zero_or_pos M with hM | hM0
      · subst hM
        exact ⟨_, fun w => c90x4nh m H K 0 0 J a1 a2 a3 a4 a5 a6 q1 q2 q3 q4 q5 q6 hp (-(m : Int)) rfl w, fun w => r90x4nh m H K 0 0 J a1 a2 a3 a4 a5 a6 q1 q2 q3 q4 q5 q6 hp (-(m : Int)) rfl w⟩
      · exact ⟨_, fun w => c90x4nm m H K M 0 J a1 a2 a3 a4 a5 a6 q1 q2 q3 q4 q5 q6 hM0 hp (-(m : Int)) rfl w, fun w => r90x4nm m H K M 0 J a1 a2 a3 a4 a5 a6 q1 q2 q3 q4 q5 q6 hM0 hp (-(m : Int)) rfl w⟩
    · rcases Nat.eq_zero_or_pos M with hM | hM0
      · subst hM
        exact ⟨_, fun w => c90x4nt m H K 0 S J a1 a2 a3 a4 a5 a6 q1 q2 q3 q4 q5 q6 hS0 hp (-(m : Int)) rfl w, fun w => r90x4nt m H K 0 S J a1 a2 a3 a4 a5 a6 q1 q2 q3 q4 q5 q6 hS0 hp (-(m : Int)) rfl w⟩
      · exact ⟨_, fun w => c90x4ns m H K M S J a1 a2 a3 a4 a5 a6 q1 q2 q3 q4 q5 q6 hS0 hM0 hp (-(m : Int)) rfl w, fun w => r90x4ns m H K M S J a1 a2 a3 a4 a5 a6 q1 q2 q3 q4 q5 q6 hS0 hM0 hp (-(m : Int)) rfl w⟩
  · obtain ⟨m, rfl⟩ : ∃ m : Nat, o = (m : Int) := ⟨o.natAbs, by omega⟩
    have F := facts_of m (by omega)
    generalize m / 3600 = H at F
    generalize m % 3600 = J at F
    generalize m / 60 % 60 = M at F
    generalize m / 60 = K at F
    generalize m % 60 = S at F
    obtain ⟨a1, a2, a3, a4, a5, a6, q1, q2, q3, q4, q5, q6⟩ := F
    rcases Nat.eq_zero_or_pos S with hS | hS0
    · subst hS
      rcases Nat.eq_zero_or_pos M with hM | hM0
      · subst hM
        rcases Nat.eq_zero_or_pos m with hz | hp
        · subst hz
          exact ⟨_, fun w => c90x4pz w, fun w => r90x4pz w⟩
        · exact ⟨_, fun w => c90x4ph m H K 0 0 J a1 a2 a3 a4 a5 a6 q1 q2 q3 q4 q5 q6 hp w, fun w => r90x4ph m H K 0 0 J a1 a2 a3 a4 a5 a6 q1 q2 q3 q4 q5 q6 hp w⟩
      · exact ⟨_, fun w => c90x4pm m H K M 0 J a1 a2 a3 a4 a5 a6 q1 q2 q3 q4 q5 q6 hM0 w, fun w => r90x4pm m H K M 0 J a1 a2 a3 a4 a5 a6 q1 q2 q3 q4 q5 q6 hM0 w⟩
    · rcases Nat.eq_zero_or_pos M with hM | hM0
      · subst hM
        exact ⟨_, fun w => c90x4pt m H K 0 S J a1 a2 a3 a4 a5 a6 q1 q2 q3 q4 q5 q6 hS0 w, fun w => r90x4pt m H K 0 S J a1 a2 a3 a4 a5 a6 q1 q2 q3 q4 q5 q6 hS0 w⟩
      · exact ⟨_, fun w => c90x4ps m H K M S J a1 a2 a3 a4 a5 a6 q1 q2 q3 q4 q5 q6 hS0 hM0 w, fun w => r90x4ps m H K M S J a1 a2 a3 a4 a5 a6 q1 q2 q3 q4 q5 q6 hS0 hM0 w⟩
theorem both90x5 (o : Int) (h0 : -86399 ≤ o) (h1 : o ≤ 86399) : Both o 90 5 := by
  by_cases hn : o < 0
  · obtain ⟨m, rfl⟩ : ∃ m : Nat, o = -(m : Int) := ⟨o.natAbs, by omega⟩
    have F := facts_of m (by omega)
    generalize m / 3600 = H at F
    generalize m % 3600 = J at F
    generalize m / 60 % 60 = M at F
    generalize m / 60 = K at F
    generalize m % 60 = S at F
    obtain ⟨a1, a2, a3, a4, a5, a6, q1, q2, q3, q4, q5, q6⟩ := F
    have hp : 0 < m := by omega
    rcases Nat.eq_zero_or_pos S with hS | hS0
    · subst hS
      rcases Nat.eq_zero_or_pos M with hM | hM0
      · subst hM
        exact ⟨_, fun w => c90x5nh m H K 0 0 J a1 a2 a3 a4 a5 a6 q1 q2 q3 q4 q5 q6 hp (-(m : Int)) rfl w, fun w => r90x5nh m H K 0 0 J a1 a2 a3 a4 a5 a6 q1 q2 q3 q4 q5 q6 hp (-(m : Int)) rfl w⟩
      · exact ⟨_, fun w => c90x5nm m H K M 0 J a1 a2 a3 a4 a5 a6 q1 q2 q3 q4 q5 q6 hM0 hp (-(m : Int)) rfl w, fun w => r90x5nm m H K M 0 J a1 a2 a3 a4 a5 a6 q1 q2 q3 q4 q5 q6 hM0 hp (-(m : Int)) rfl w⟩
    · rcases Nat.eq_zero_or_pos M with hM | hM0
      · subst hM
        exact ⟨_, fun w => c90x5nt m H K 0 S J a1 a2 a3 a4 a5 a6 q1 q2 q3 q4 q5 q6 hS0 hp (-(m : Int)) rfl w, fun w => r90x5nt m H K 0 S J a1 a2 a3 a4 a5 a6 q1 q2 q3 q4 q5 q6 hS0 hp (-(m : Int)) rfl w⟩
      · exact ⟨_, fun w => c90x5ns m H K M S J a1 a2 a3 a4 a5 a6 q1 q2 q3 q4 q5 q6 hS0 hM0 hp (-(m : Int)) rfl w, fun w => r90x5ns m H K M S J a1 a2 a3 a4 a5 a6 q1 q2 q3 q4 q5 q6 hS0 hM0 hp (-(m : Int)) rfl w⟩
  · obtain ⟨m, rfl⟩ : ∃ m : Nat, o = (m : Int) := ⟨o.natAbs, by omega⟩
    have F := facts_of m (by omega)
    generalize m / 3600 = H at F
    generalize m % 3600 = J at F
    generalize m / 60 % 60 = M at F
    generalize m / 60 = K at F
    generalize m % 60 = S at F
    obtain ⟨a1, a2, a3, a4, a5, a6, q1, q2, q3, q4, q5, q6⟩ := F
    rcases Nat.eq_zero_or_pos S with hS | hS0
    · subst hS
      rcases Nat.eq_zero_or_pos M with hM | hM0
      · subst hM
        rcases Nat.eq_zero_or_pos m with hz | hp
        · subst hz
          exact ⟨_, fun w => c90x5pz w, fun w => r90x5pz w⟩
        · exact ⟨_, fun w => c90x5ph m H K 0 0 J a1 a2 a3 a4 a5 a6 q1 q2 q3 q4 q5 q6 hp w, fun w => r90x5ph m H K 0 0 J a1 a2 a3 a4 a5 a6 q1 q2 q3 q4 q5 q6 hp w⟩
      · exact ⟨_, fun w => c90x5pm m H K M 0 J a1 a2 a3 a4 a5 a6 q1 q2 q3 q4 q5 q6 hM0 w, fun w => r90x5pm m H K M 0 J a1 a2 a3 a4 a5 a6 q1 q2 q3 q4 q5 q6 hM0 w⟩
    · rcases Nat.eq_zero_or_pos M with hM | hM0
      · subst hM
        exact ⟨_, fun w => c90x5pt m H K 0 S J a1 a2 a3 a4 a5 a6 q1 q2 q3 q4 q5 q6 hS0 w, fun w => r90x5pt m H K 0 S J a1 a2 a3 a4 a5 a6 q1 q2 q3 q4 q5 q6 hS0 w⟩
      · exact ⟨_, fun w => c90x5ps m H K M S J a1 a2 a3 a4 a5 a6 q1 q2 q3 q4 q5 q6 hS0 hM0 w, fun w => r90x5ps m H K M S J a1 a2 a3 a4 a5 a6 q1 q2 q3 q4 q5 q6 hS0 hM0 w⟩
theorem both120x1 (o : Int) (h0 : -86399 ≤ o) (h1 : o ≤ 86399) : Both o 120 1 := by
  by_cases hn : o < 0
  · obtain ⟨m, rfl⟩ : ∃ m : Nat, o = -(m : Int) := ⟨o.natAbs, by omega⟩
    have F := facts_of m (by omega)
    generalize m / 3600 = H at F
    generalize m % 3600 = J at F
    generalize m / 60 % 60 = M at F
    generalize m / 60 = K at F
    generalize m % 60 = S at F
    obtain ⟨a1, a2, a3, a4, a5, a6, q1, q2, q3, q4, q5, q6⟩ := F
    have hp : 0 < m := by omega
    rcases Nat.eq_zero_or_pos S with hS | hS0
    · subst hS
      rcases Nat.eq_zero_or_pos M with hM | hM0
      · subst hM
        exact ⟨_, fun w => c120x1nh m H K 0 0 J a1 a2 a3 a4 a5 a6 q1 q2 q3 q4 q5 q6 hp (-(m : Int)) rfl w, fun w => r120x1nh m H K 0 0 J a1 a2 a3 a4 a5 a6 q1 q2 q3 q4 q5 q6 hp (-(m : Int)) rfl w⟩
      · exact ⟨_, fun w => c120x1nm m H K M 0 J a1 a2 a3 a4 a5 a6 q1 q2 q3 q4 q5 q6 hM0 hp (-(m : Int)) rfl w, fun w => r120x1nm m H K M 0 J a1 a2 a3 a4 a5 a6 q1 q2 q3 q4 q5 q6 hM0 hp (-(m : Int)) rfl w⟩
    · rcases Nat.eq_zero_or_pos M with hM | hM0
      · subst hM
        exact ⟨_, fun w => c120x1nt m H K 0 S J a1 a2 a3 a4 a5 a6 q1 q2 q3 q4 q5 q6 hS0 hp (-(m : Int)) rfl w, fun w => r120x1nt m H K 0 S J a1 a2 a3 a4 a5 a6 q1 q2 q3 q4 q5 q6 hS0 hp (-(m : Int)) rfl w⟩
      · exact ⟨_, fun w => c120x1ns m H K M S J a1 a2 a3 a4 a5 a6 q1 q2 q3 q4 q5 q6 hS0 hM0 hp (-(m : Int)) rfl w, fun w => r120x1ns m H K M S J a1 a2 a3 a4 a5 a6 q1 q2 q3 q4 q5 q6 hS0 hM0 hp (-(m : Int)) rfl w⟩
  · obtain ⟨m, rfl⟩ : ∃ m : Nat, o = (m : Int) := ⟨o.natAbs, by omega⟩
    have F := facts_of m (by omega)
    generalize m / 3600 = H at F
    generalize m % 3600 = J at F
    generalize m / 60 % 60 = M at F
    generalize m / 60 = K at F
    generalize m % 60 = S at F
    obtain ⟨a1, a2, a3, a4, a5, a6, q1, q2, q3, q4, q5, q6⟩ := F
    rcases Nat.eq_zero_or_pos S with hS | hS0
    · subst hS
      rcases Nat.eq_zero_or_pos M with hM | hM0
      · subst hM
        rcases Nat.eq_zero_or_pos m with hz | hp
        · subst hz
          exact ⟨_, fun w => c120x1pz w, fun w => r120x1pz w⟩
        · exact ⟨_, fun w => c120x1ph m H K 0 0 J a1 a2 a3 a4 a5 a6 q1 q2 q3 q4 q5 q6 hp w, fun w => r120x1ph m H K 0 0 J a1 a2 a3 a4 a5 a6 q1 q2 q3 q4 q5 q6 hp w⟩
      · exact ⟨_, fun w => c120x1pm m H K M 0 J a1 a2 a3 a4 a5 a6 q1 q2 q3 q4 q5 q6 hM0 w, fun w => r120x1pm m H K M 0 J a1 a2 a3 a4 a5 a6 q1 q2 q3 q4 q5 q6 hM0 w⟩
    · rcases Nat.eq_zero_or_pos M with hM | hM0
      · subst hM
        exact ⟨_, fun w => c120x1pt m H K 0 S J a1 a2 a3 a4 a5 a6 q1 q2 q3 q4 q5 q6 hS0 w, fun w => r120x1pt m H K 0 S J a1 a2 a3 a4 a5 a6 q1 q2 q3 q4 q5 q6 hS0 w⟩
      · exact ⟨_, fun w => c120x1ps m H K M S J a1 a2 a3 a4 a5 a6 q1 q2 q3 q4 q5 q6 hS0 hM0 w, fun w => r120x1ps m H K M S J a1 a2 a3 a4 a5 a6 q1 q2 q3 q4 q5 q6 hS0 hM0 w⟩
theorem both120x2 (o : Int) (h0 : -86399 ≤ o) (h1 : o ≤ 86399) : Both o 120 2 := by
  by_cases hn : o < 0
  · obtain ⟨m, rfl⟩ : ∃ m : Nat, o = -(m : Int) := ⟨o.natAbs, by omega⟩
    have F := facts_of m (by omega)
    generalize m / 3600 = H at F
    generalize m % 3600 = J at F
    generalize m / 60 % 60 = M at F
    generalize m / 60 = K at F
    generalize m % 60 = S at F
    obtain ⟨a1, a2, a3, a4, a5, a6, q1, q2, q3, q4, q5, q6⟩ := F
    have hp : 0 < m := by omega
    rcases Nat.eq_zero_or_pos S with hS | hS0
    · subst hS
      rcases Nat.eq_zero_or_pos M with hM | hM0
      · subst hM
        exact ⟨_, fun w => c120x2nh m H K 0 0 J a1 a2 a3 a4 a5 a6 q1 q2 q3 q4 q5 q6 hp (-(m : Int)) rfl w, fun w => r120x2nh m H K 0 0 J a1 a2 a3 a4 a5 a6 q1 q2 q3 q4 q5 q6 hp (-(m : Int)) rfl w⟩
      · exact ⟨_, fun w => c120x2nm m H K M 0 J a1 a2 a3 a4 a5 a6 q1 q2 q3 q4 q5 q6 hM0 hp (-(m : Int)) rfl w, fun w => r120x2nm m H K M 0 J a1 a2 a3 a4 a5 a6 q1 q2 q3 q4 q5 q6 hM0 hp (-(m : Int)) rfl w⟩
    · rcases Nat.eq_zero_or_pos M with hM | hM0
      · subst hM
        exact ⟨_, fun w => c120x2nt m H K 0 S J a1 a2 a3 a4 a5 a6 q1 q2 q3 q4 q5 q6 hS0 hp (-(m : Int)) rfl w, fun w => r120x2nt m H K 0 S J a1 a2 a3 a4 a5 a6 q1 q2 q3 q4 q5 q6 hS0 hp (-(m : Int)) rfl w⟩
      · exact ⟨_, fun w => c120x2ns m H K M S J a1 a2 a3 a4 a5 a6 q1 q2 q3 q4 q5 q6 hS0 hM0 hp (-(m : Int)) rfl w, fun w => r120x2ns m H K M S J a1 a2 a3 a4 a5 a6 q1 q2 q3 q4 q5 q6 hS0 hM0 hp (-(m : Int)) rfl w⟩
  · obtain ⟨m, rfl⟩ : ∃ m : Nat, o = (m : Int) := ⟨o.natAbs, by omega⟩
    have F := facts_of m (by omega)
    generalize m / 3600 = H at F
    generalize m % 3600 = J at F
    generalize m / 60 % 60 = M at F
    generalize m / 60 = K at F
    generalize m % 60 = S at F
    obtain ⟨a1, a2, a3, a4, a5, a6, q1, q2, q3, q4, q5, q6⟩ := F
    rcases Nat.eq_zero_or_pos S with hS | hS0
    · subst hS
      rcases Nat.eq_zero_or_pos M with hM | hM0
      · subst hM
        rcases Nat.eq_zero_or_pos m with hz | hp
        · subst hz
          exact ⟨_, fun w => c120x2pz w, fun w => r120x2pz w⟩
        · exact ⟨_, fun w => c120x2ph m H K 0 0 J a1 a2 a3 a4 a5 a6 q1 q2 q3 q4 q5 q6 hp w, fun w => r120x2ph m H K 0 0 J a1 a2 a3 a4 a5 a6 q1 q2 q3 q4 q5 q6 hp w⟩
      · exact ⟨_, fun w => c120x2pm m H K M 0 J a1 a2 a3 a4 a5 a6 q1 q2 q3 q4 q5 q6 hM0 w, fun w => r120x2pm m H K M 0 J a1 a2 a3 a4 a5 a6 q1 q2 q3 q4 q5 q6 hM0 w⟩
    · rcases Nat.eq_zero_or_pos M with hM | hM0
      · subst hM
        exact ⟨_, fun w => c120x2pt m H K 0 S J a1 a2 a3 a4 a5 a6 q1 q2 q3 q4 q5 q6 hS0 w, fun w => r120x2pt m H K 0 S J a1 a2 a3 a4 a5 a6 q1 q2 q3 q4 q5 q6 hS0 w⟩
      · exact ⟨_, fun w => c120x2ps m H K M S J a1 a2 a3 a4 a5 a6 q1 q2 q3 q4 q5 q6 hS0 hM0 w, fun w => r120x2ps m H K M S J a1 a2 a3 a4 a5 a6 q1 q2 q3 q4 q5 q6 hS0 hM0 w⟩
theorem both120x3 (o : Int) (h0 : -86399 ≤ o) (h1 : o ≤ 86399) : Both o 120 3 := by
  by_cases hn : o < 0
  · obtain ⟨m, rfl⟩ : ∃ m : Nat, o = -(m : Int) := ⟨o.natAbs, by omega⟩
    have F := facts_of m (by omega)
    generalize m / 3600 = H at F
    generalize m % 3600 = J at F
    generalize m / 60 % 60 = M at F
    generalize m / 60 = K at F
    generalize m % 60 = S at F
    obtain ⟨a1, a2, a3, a4, a5, a6, q1, q2, q3, q4, q5, q6⟩ := F
    have hp : 0 < m := by omega
    rcases Nat.eq_zero_or_pos S with hS | hS0
    · subst hS
      rcases Nat.eq_zero_or_pos M with hM | hM0
      · subst hM
        exact ⟨_, fun w => c120x3nh m H K 0 0 J a1 a2 a3 a4 a5 a6 q1 q2 q3 q4 q5 q6 hp (-(m : Int)) rfl w, fun w => r120x3nh m H K 0 0 J a1 a2 a3 a4 a5 a6 q1 q2 q3 q4 q5 q6 hp (-(m : Int)) rfl w⟩
      · exact ⟨_, fun w => c120x3nm m H K M 0 J a1 a2 a3 a4 a5 a6 q1 q2 q3 q4 q5 q6 hM0 hp (-(m : Int)) rfl w, fun w => r120x3nm m H K M 0 J a1 a2 a3 a4 a5 a6 q1 q2 q3 q4 q5 q6 hM0 hp (-(m : Int)) rfl w⟩
    · rcases Nat.eq_zero_or_pos M with hM | hM0
      · subst hM
        exact ⟨_, fun w => c120x3nt m H K 0 S J a1 a2 a3 a4 a5 a6 q1 q2 q3 q4 q5 q6 hS0 hp (-(m : Int)) rfl w, fun w => r120x3nt m H K 0 S J a1 a2 a3 a4 a5 a6 q1 q2 q3 q4 q5 q6 hS0 hp (-(m : Int)) rfl w⟩
      · exact ⟨_, fun w => c120x3ns m H K M S J a1 a2 a3 a4 a5 a6 q1 q2 q3 q4 q5 q6 hS0 hM0 hp (-(m : Int)) rfl w, fun w => r120x3ns m H K M S J a1 a2 a3 a4 a5 a6 q1 q2 q3 q4 q5 q6 hS0 hM0 hp (-(m : Int)) rfl w⟩
  · obtain ⟨m, rfl⟩ : ∃ m : Nat, o = (m : Int) := ⟨o.natAbs, by omega⟩
    have F := facts_of m (by omega)
    generalize m / 3600 = H at F
    generalize m % 3600 = J at F
    generalize m / 60 % 60 = M at F
    generalize m / 60 = K at F
    generalize m % 60 = S at F
    obtain ⟨a1, a2, a3, a4, a5, a6, q1, q2, q3, q4, q5, q6⟩ := F
    rcases Nat.eq_zero_or_pos S with hS | hS0
    · subst hS
      rcases Nat.eq_zero_or_pos M with hM | hM0
      · subst hM
        rcases Nat.eq_zero_or_pos m with hz | hp
        · subst hz
          exact ⟨_, fun w => c120x3pz w, fun w => r120x3pz w⟩
        · exact ⟨_, fun w => c120x3ph m H K 0 0 J a1 a2 a3 a4 a5 a6 q1 q2 q3 q4 q5 q6 hp w, fun w => r120x3ph m H K 0 0 J a1 a2 a3 a4 a5 a6 q1 q2 q3 q4 q5 q6 hp w⟩
      · exact ⟨_, fun w => c120x3pm m H K M 0 J a1 a2 a3 a4 a5 a6 q1 q2 q3 q4 q5 q6 hM0 w, fun w => r120x3pm m H K M 0 J a1 a2 a3 a4 a5 a6 q1 q2 q3 q4 q5 q6 hM0 w⟩
    · rcases Nat.eq_zero_or_pos M with hM | hM0
      · subst hM
        exact ⟨_, fun w => c120x3pt m H K 0 S J a1 a2 a3 a4 a5 a6 q1 q2 q3 q4 q5 q6 hS0 w, fun w => r120x3pt m H K 0 S J a1 a2 a3 a4 a5 a6 q1 q2 q3 q4 q5 q6 hS0 w⟩
      · exact ⟨_, fun w => c120x3ps m H K M S J a1 a2 a3 a4 a5 a6 q1 q2 q3 q4 q5 q6 hS0 hM0 w, fun w => r120x3ps m H K M S J a1 a2 a3 a4 a5 a6 q1 q2 q3 q4 q5 q6 hS0 hM0 w⟩
theorem both120x4 (o : Int) (h0 : -86399 ≤ o) (h1 : o ≤ 86399) : Both o 120 4 := by
  by_cases hn : o < 0
  · obtain ⟨m, rfl⟩ : ∃ m : Nat, o = -(m : Int) := ⟨o.natAbs, by omega⟩
    have F := facts_of m (by omega)
    generalize m / 3600 = H at F
    generalize m % 3600 = J at F
    generalize m / 60 % 60 = M at F
    generalize m / 60 = K at F
    generalize m % 60 = S at F
    obtain ⟨a1, a2, a3, a4, a5, a6, q1, q2, q3, q4, q5, q6⟩ := F
    have hp : 0 < m := by omega
    rcases Nat.eq_zero_or_pos S with hS | hS0
    · subst hS
      rcases Nat.eq_zero_or_pos M with hM | hM0
      · subst hM
        exact ⟨_, fun w => c120x4nh m H K 0 0 J a1 a2 a3 a4 a5 a6 q1 q2 q3 q4 q5 q6 hp (-(m : Int)) rfl w, fun w => r120x4nh m H K 0 0 J a1 a2 a3 a4 a5 a6 q1 q2 q3 q4 q5 q6 hp (-(m : Int)) rfl w⟩
      · exact ⟨_, fun w => c120x4nm m H K M 0 J a1 a2 a3 a4 a5 a6 q1 q2 q3 q4 q5 q6 hM0 hp (-(m : Int)) rfl w, fun w => r120x4nm m H K M 0 J a1 a2 a3 a4 a5 a6 q1 q2 q3 q4 q5 q6 hM0 hp (-(m : Int)) rfl w⟩
    · rcases Nat.eq_zero_or_pos M with hM | hM0
      · subst hM
        exact ⟨_, fun w => c120x4nt m H K 0 S J a1 a2 a3 a4 a5 a6 q1 q2 q3 q4 q5 q6 hS0 hp (-(m : Int)) rfl w, fun w => r120x4nt m H K 0 S J a1 a2 a3 a4 a5 a6 q1 q2 q3 q4 q5 q6 hS0 hp (-(m : Int)) rfl w⟩
      · exact ⟨_, fun w => c120x4ns m H K M S J a1 a2 a3 a4 a5 a6 q1 q2 q3 q4 q5 q6 hS0 hM0 hp (-(m : Int)) rfl w, fun w => r120x4ns m H K M S J a1 a2 a3 a4 a5 a6 q1 q2 q3 q4 q5 q6 hS0 hM0 hp (-(m : Int)) rfl w⟩
  · obtain ⟨m, rfl⟩ : ∃ m : Nat, o = (m : Int) := ⟨o.natAbs, by omega⟩
    have F := facts_of m (by omega)
    generalize m / 3600 = H at F
    generalize m % 3600 = J at F
    generalize m / 60 % 60 = M at F
    generalize m / 60 = K at F
    generalize m % 60 = S at F
    obtain ⟨a1, a2, a3, a4, a5, a6, q1, q2, q3, q4, q5, q6⟩ := F
    rcases Nat.eq_zero_or_pos S with hS | hS0
    · subst hS
      rcases Nat.eq_zero_or_pos M with hM | hM0
      · subst hM
        rcases Nat.eq_zero_or_pos m with hz | hp
        · subst hz
          exact ⟨_, fun w => c120x4pz w, fun w => r120x4pz w⟩
        · exact ⟨_, fun w => c120x4ph m H K 0 0 J a1 a2 a3 a4 a5 a6 q1 q2 q3 q4 q5 q6 hp w, fun w => r120x4ph m H K 0 0 J a1 a2 a3 a4 a5 a6 q1 q2 q3 q4 q5 q6 hp w⟩
      · exact ⟨_, fun w => c120x4pm m H K M 0 J a1 a2 a3 a4 a5 a6 q1 q2 q3 q4 q5 q6 hM0 w, fun w => r120x4pm m H K M 0 J a1 a2 a3 a4 a5 a6 q1 q2 q3 q4 q5 q6 hM0 w⟩
    · rcases Nat.eq_zero_or_pos M with hM | hM0
      · subst hM
        exact ⟨_, fun w => c120x4pt m H K 0 S J a1 a2 a3 a4 a5 a6 q1 q2 q3 q4 q5 q6 hS0 w, fun w => r120x4pt m H K 0 S J a1 a2 a3 a4 a5 a6 q1 q2 q3 q4 q5 q6 hS0 w⟩
      · exact ⟨_, fun w => c120x4ps m H K M S J a1 a2 a3 a4 a5 a6 q1 q2 q3 q4 q5 q6 hS0 hM0 w, fun w => r120x4ps m H K M S J a1 a2 a3 a4 a5 a6 q1 q2 q3 q4 q5 q6 hS0 hM0 w⟩
theorem both120x5 (o : Int) (h0 : -86399 ≤ o) (h1 : o ≤ 86399) : Both o 120 5 := by
  by_cases hn : o < 0
  · obtain ⟨m, rfl⟩ : ∃ m : Nat, o = -(m : Int) := ⟨o.natAbs, by omega⟩
    have F := facts_of m (by omega)
    generalize m / 3600 = H at F
    generalize m % 3600 = J at F
    generalize m / 60 % 60 = M at F
    generalize m / 60 = K at F
    generalize m % 60 = S at F
    obtain ⟨a1, a2, a3, a4, a5, a6, q1, q2, q3, q4, q5, q6⟩ := F
    have hp : 0 < m := by omega
    rcases Nat.eq_zero_or_pos S with hS | hS0
    · subst hS
      rcases Nat.eq_zero_or_pos M with hM | hM0
      · subst hM
        exact ⟨_, fun w => c120x5nh m H K 0 0 J a1 a2 a3 a4 a5 a6 q1 q2 q3 q4 q5 q6 hp (-(m : Int)) rfl w, fun w => r120x5nh m H K 0 0 J a1 a2 a3 a4 a5 a6 q1 q2 q3 q4 q5 q6 hp (-(m : Int)) rfl w⟩
      · exact ⟨_, fun w => c120x5nm m H K M 0 J a1 a2 a3 a4 a5 a6 q1 q2 q3 q4 q5 q6 hM0 hp (-(m : Int)) rfl w, fun w => r120x5nm m H K M 0 J a1 a2 a3 a4 a5 a6 q1 q2 q3 q4 q5 q6 hM0 hp (-(m : Int)) rfl w⟩
    · rcases Nat.eq_zero_or_pos M with hM | hM0
      · subst hM
        exact ⟨_, fun w => c120x5nt m H K 0 S J a1 a2 a3 a4 a5 a6 q1 q2 q3 q4 q5 q6 hS0 hp (-(m : Int)) rfl w, fun w => r120x5nt m H K 0 S J a1 a2 a3 a4 a5 a6 q1 q2 q3 q4 q5 q6 hS0 hp (-(m : Int)) rfl w⟩
      · exact ⟨_, fun w => c120x5ns m H K M S J a1 a2 a3 a4 a5 a6 q1 q2 q3 q4 q5 q6 hS0 hM0 hp (-(m : Int)) rfl w, fun w => r120x5ns m H K M S J a1 a2 a3 a4 a5 a6 q1 q2 q3 q4 q5 q6 hS0 hM0 hp (-(m : Int)) rfl w⟩
  · obtain ⟨m, rfl⟩ : ∃ m : Nat, o = (m : Int) := ⟨o.natAbs, by omega⟩
    have F := facts_of m (by omega)
    generalize m / 3600 = H at F
    generalize m % 3600 = J at F
    generalize m / 60 % 60 = M at F
    generalize m / 60 = K at F
    generalize m % 60 = S at F
    obtain ⟨a1, a2, a3, a4, a5, a6, q1, q2, q3, q4, q5, q6⟩ := F
    rcases Nat.eq_zero_or_pos S with hS | hS0
    · subst hS
      rcases Nat.eq_zero_or_pos M with hM | hM0
      · subst hM
        rcases Nat.eq_zero_or_pos m with hz | hp
        · subst hz
          exact ⟨_, fun w => c120x5pz w, fun w => r120x5pz w⟩
        · exact ⟨_, fun w => c120x5ph m H K 0 0 J a1 a2 a3 a4 a5 a6 q1 q2 q3 q4 q5 q6 hp w, fun w => r120x5ph m H K 0 0 J a1 a2 a3 a4 a5 a6 q1 q2 q3 q4 q5 q6 hp w⟩
      · exact ⟨_, fun w => c120x5pm m H K M 0 J a1 a2 a3 a4 a5 a6 q1 q2 q3 q4 q5 q6 hM0 w, fun w => r120x5pm m H K M 0 J a1 a2 a3 a4 a5 a6 q1 q2 q3 q4 q5 q6 hM0 w⟩
    · rcases Nat.eq_zero_or_pos M with hM | hM0
      · subst hM
        exact ⟨_, fun w => c120x5pt m H K 0 S J a1 a2 a3 a4 a5 a6 q1 q2 q3 q4 q5 q6 hS0 w, fun w => r120x5pt m H K 0 S J a1 a2 a3 a4 a5 a6 q1 q2 q3 q4 q5 q6 hS0 w⟩
      · exact ⟨_, fun w => c120x5ps m H K M S J a1 a2 a3 a4 a5 a6 q1 q2 q3 q4 q5 q6 hS0 hM0 w, fun w => r120x5ps m H K M S J a1 a2 a3 a4 a5 a6 q1 q2 q3 q4 q5 q6 hS0 hM0 w⟩
theorem both_any (o l c : Int) (h0 : -86399 ≤ o) (h1 : o ≤ 86399) (hl : l = 90 ∨ l = 120) (c0 : 1 ≤ c) (c1 : c ≤ 5) : Both o l c := by
  have hc : c = 1 ∨ c = 2 ∨ c = 3 ∨ c = 4 ∨ c = 5 := by omega
  rcases hl with rfl | rfl <;> rcases hc with rfl | rfl | rfl | rfl | rfl
  · exact both90x1 o h0 h1
  · exact both90x2 o h0 h1
  · exact both90x3 o h0 h1
  · exact both90x4 o h0 h1
  · exact both90x5 o h0 h1
  · exact both120x1 o h0 h1
  · exact both120x2 o h0 h1
  · exact both120x3 o h0 h1
  · exact both120x4 o h0 h1
  · exact both120x5 o h0 h1
end Go.Proofs.YtmhgnbfpbfekaaaGreatDoor
