/-
  The reference told: the candidate of each number up to the last one. No condition.
-/
import Derived.Test.YtdkekhaamhphcaaGreatDoorVf
import Derived.KernelRfl
namespace Go.Proofs.YtdkekhaamhphcaaGreatDoor
open Go.Vx Go.RowKit
set_option maxRecDepth 1000000
def candL : List (List UInt8) := [[100], [69], [69, 100], [71, 121], [71, 121, 77, 77, 77], [72], [104], [72, 109], [104, 109], [72, 109, 115], [104, 109, 115], [77], [77, 100], [77, 69, 100], [77, 77, 77], [77, 77, 77, 100], [77, 77, 77, 69, 100], [77, 77, 77, 77, 100], [109, 115], [121], [121, 77], [121, 77, 100], [121, 77, 69, 100], [121, 77, 77, 77], [121, 77, 77, 77, 100], [121, 77, 77, 77, 69, 100], [121, 77, 77, 77, 77], [121, 119], []]
theorem cand_0 : ((List.range 4).all fun n => comesTo (.str (candL.getD (n + 0) [])) (callX 30 env 100000 12 9 [.int .i64 (.ofNat (n + 0))] { H := startH [], nx := 12 })) = true := by kernel_rfl
theorem cand_4 : ((List.range 4).all fun n => comesTo (.str (candL.getD (n + 4) [])) (callX 30 env 100000 12 9 [.int .i64 (.ofNat (n + 4))] { H := startH [], nx := 12 })) = true := by kernel_rfl
theorem cand_8 : ((List.range 4).all fun n => comesTo (.str (candL.getD (n + 8) [])) (callX 30 env 100000 12 9 [.int .i64 (.ofNat (n + 8))] { H := startH [], nx := 12 })) = true := by kernel_rfl
theorem cand_12 : ((List.range 4).all fun n => comesTo (.str (candL.getD (n + 12) [])) (callX 30 env 100000 12 9 [.int .i64 (.ofNat (n + 12))] { H := startH [], nx := 12 })) = true := by kernel_rfl
theorem cand_16 : ((List.range 4).all fun n => comesTo (.str (candL.getD (n + 16) [])) (callX 30 env 100000 12 9 [.int .i64 (.ofNat (n + 16))] { H := startH [], nx := 12 })) = true := by kernel_rfl
theorem cand_20 : ((List.range 4).all fun n => comesTo (.str (candL.getD (n + 20) [])) (callX 30 env 100000 12 9 [.int .i64 (.ofNat (n + 20))] { H := startH [], nx := 12 })) = true := by kernel_rfl
theorem cand_24 : ((List.range 4).all fun n => comesTo (.str (candL.getD (n + 24) [])) (callX 30 env 100000 12 9 [.int .i64 (.ofNat (n + 24))] { H := startH [], nx := 12 })) = true := by kernel_rfl
theorem cand_28 : ((List.range 1).all fun n => comesTo (.str (candL.getD (n + 28) [])) (callX 30 env 100000 12 9 [.int .i64 (.ofNat (n + 28))] { H := startH [], nx := 12 })) = true := by kernel_rfl
theorem cand_tells (n k m : Nat) (hm : ((List.range m).all fun n => comesTo (.str (candL.getD (n + k) [])) (callX 30 env 100000 12 9 [.int .i64 (.ofNat (n + k))] { H := startH [], nx := 12 })) = true) (h : n < m) : Tells Tryz.prog 12 [] 9 [.int .i64 (.ofNat (n + k))] (.str (candL.getD (n + k) [])) := by
  have h1 := List.all_eq_true.1 hm n (List.mem_range.2 h)
  exact tells env_ok 29 100000 rfl (by kernel_rfl) env_f9 rfl h1 (by simp [BndL, Bnd])
theorem cand_yes (n : Nat) (h : n < 29) (w : World) : Calls Tryz.prog 9 #[.int .i64 n] w fun e w' => e = .returned (.string ⟨(candL.getD n []).toArray⟩) ∧ Below w.heap.size w w' := by
  have key : ∀ k m, ((List.range m).all fun n => comesTo (.str (candL.getD (n + k) [])) (callX 30 env 100000 12 9 [.int .i64 (.ofNat (n + k))] { H := startH [], nx := 12 })) = true → k ≤ n → n < k + m → Calls Tryz.prog 9 #[.int .i64 n] w fun e w' => e = .returned (.string ⟨(candL.getD n []).toArray⟩) ∧ Below w.heap.size w w' := fun k m hm h1 h2 => by
    have h3 := cand_tells (n - k) k m hm (by omega)
    rw [show n - k + k = n by omega] at h3
    exact h3 (renOf [] (by simp)) w (fun t ht => by cases ht) (fun _ _ => rfl)
  by_cases c0 : n < 4
  · exact key 0 4 cand_0 (by omega) (by omega)
  by_cases c4 : n < 8
  · exact key 4 4 cand_4 (by omega) (by omega)
  by_cases c8 : n < 12
  · exact key 8 4 cand_8 (by omega) (by omega)
  by_cases c12 : n < 16
  · exact key 12 4 cand_12 (by omega) (by omega)
  by_cases c16 : n < 20
  · exact key 16 4 cand_16 (by omega) (by omega)
  by_cases c20 : n < 24
  · exact key 20 4 cand_20 (by omega) (by omega)
  by_cases c24 : n < 28
  · exact key 24 4 cand_24 (by omega) (by omega)
  by_cases c28 : n < 32
  · exact key 28 1 cand_28 (by omega) (by omega)
  omega
end Go.Proofs.YtdkekhaamhphcaaGreatDoor
