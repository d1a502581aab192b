/-
  The closures of slices.Values and slices.Backward over texts hand out their slices. No condition.
-/
import Derived.Test.YtpcgcghhddnifaaGreatDoorProg
import Derived.Test.YtpcgcghhddnifaaGreatDoorVxZg
import Derived.RangeFuncNested
import Derived.RangeFuncBound
import Derived.RangeFuncCalls
import Derived.RangeFuncLeaves
import Derived.RangeFuncBox
import Derived.Shelf.Abstract
import Derived.Shelf.RegionOpen
import Derived.WalkKit
import Derived.Lib.Hide
import Derived.OwnWalkIn
import Derived.TacticsInMore
import Derived.LoopNIn
import Derived.LoopIn
set_option linter.unusedVariables false
namespace Go.Proofs.YtpcgcghhddnifaaGreatDoor
open Go.RowKit Go.Shelf Go.Vx
attribute [local go_sem] Oper.semAt_some
set_option maxRecDepth 100000 in
set_option maxHeartbeats 1000000 in
theorem values_iter : IterOk Tryz.prog 248 false := by
  refine ⟨Tryz.call248, fun n l A Bs cap N vs J W hN hh he hy h0 => ?_⟩
  have hhead := hh 0 W h0 (.inr rfl)
  show CallsIn Fence.wide n _ _ _ _ _
  refine callsIn_of_wp Tryz.func248 rfl trivial ?_ rfl
  simp only [Tryz.ntmps248, List.size_toArray, List.length_cons, List.length_nil, Nat.reduceAdd, Nat.reduceSub, Array.replicate_succ, Array.replicate_zero, List.push_toArray, List.append_toArray, List.nil_append, List.cons_append]
  gi_wp2
  gi_loopw [7] (fun i wr => ∃ k : Nat, i = .int .i64 (k : Int) ∧ k ≤ N ∧ J k wr) (fun i _ => N - (intOf i).toNat)
  case atStart => exact ⟨0, rfl, by omega, h0⟩
  case round =>
    obtain ⟨k, rfl, hk, hJ⟩ := hrel
    by_cases hlt : k < N
    · have hc := he k wr hJ hlt
      simp only [posK] at hc
      obtain ⟨fn, tmps, assign, body, hyy, hR⟩ := hy (n - 1) k wr hJ hlt
      simp only [encK] at hyy
      have q0 : (0 : Int) ≤ (k : Int) := by omega
      have q1 : (k : Int) < (N : Int) := by omega
      clear hh he hy hhead
      gi_wp2
      refine ⟨fun hs => by simp [Fence.wide] at hs, ?_⟩
      refine hR.mono ?_
      rintro e W3 ⟨rfl, hJ3⟩
      gi_wp2
      go_roundw
      case rel => exact ⟨k + 1, by go_num, by omega, hJ3⟩
      case measure => simp [intOf]; omega
    · obtain rfl : k = N := by omega
      have q1 : ¬ (k : Int) < (k : Int) := by omega
      clear hh he hy hhead
      gi_wp2
      go_end0
      exact ⟨⟨_, rfl⟩, hJ⟩
set_option maxRecDepth 100000 in
set_option maxHeartbeats 1000000 in
theorem back_iter : IterOk Tryz.prog 55 true := by
  refine ⟨Tryz.call55, fun n l A Bs cap N vs J W hN hh he hy h0 => ?_⟩
  have hhead := hh 0 W h0 (.inr rfl)
  show CallsIn Fence.wide n _ _ _ _ _
  refine callsIn_of_wp Tryz.func55 rfl trivial ?_ rfl
  simp only [Tryz.ntmps55, List.size_toArray, List.length_cons, List.length_nil, Nat.reduceAdd, Nat.reduceSub, Array.replicate_succ, Array.replicate_zero, List.push_toArray, List.append_toArray, List.nil_append, List.cons_append]
  gi_wp2
  gi_loopw [3] (fun i wr => ∃ (k : Nat) (x : Int), i = .int .i64 x ∧ x = (N : Int) - 1 - (k : Int) ∧ k ≤ N ∧ J k wr) (fun i _ => (intOf i + 1).toNat)
  case atStart => exact ⟨0, _, rfl, by simp, by omega, h0⟩
  case round =>
    obtain ⟨k, x, rfl, hx, hk, hJ⟩ := hrel
    by_cases hlt : k < N
    · have hc := he k wr hJ hlt
      have hd := hh k wr hJ (.inl hlt)
      simp only [posK] at hc
      obtain ⟨fn, tmps, assign, body, hyy, hR⟩ := hy (n - 1) k wr hJ hlt
      simp only [encK] at hyy
      obtain ⟨i, hi⟩ : ∃ i : Nat, i = N - 1 - k := ⟨_, rfl⟩
      rw [← hi] at hyy hc
      obtain rfl : x = (i : Int) := by omega
      have q0 : (0 : Int) ≤ (i : Int) := by omega
      have q1 : (i : Int) < (N : Int) := by omega
      have hI := Lib.hid hi
      clear hh he hy hhead hx hi
      gi_wp2
      refine ⟨fun hs => by simp [Fence.wide] at hs, ?_⟩
      refine hR.mono ?_
      rintro e W3 ⟨rfl, hJ3⟩
      gi_wp2
      go_roundw
      case rel => exact ⟨k + 1, _, rfl, by have := hI.out; omega, by omega, hJ3⟩
      case measure => simp [intOf]
    · obtain rfl : k = N := by omega
      obtain rfl : x = -1 := by omega
      clear hh he hy hhead
      gi_wp2
      go_end0
      exact ⟨⟨_, rfl⟩, hJ⟩
end Go.Proofs.YtpcgcghhddnifaaGreatDoor
