/-
  The layer wakes; two digits of a number below sixty. No condition.
-/
import Derived.Test.YtmhgnbfpbfekaaaGreatDoorVi
import Derived.KernelRfl
namespace Go.Proofs.YtmhgnbfpbfekaaaGreatDoor
open Go.Vx Go.RowKit
set_option maxRecDepth 1000000
noncomputable def envW : Env := withS env [(151, memoX 12 [] nmT), (57, memoX 12 [] rpT), (103, memoX 12 tabs whT)]
theorem envW_ok : envW.Ok Tryz.prog := withS_ok env_ok (allC nm_sum (allC rp_sum (allC wh_sum allN)))
theorem wakes_told : Tells Tryz.prog 12 tabs 4 [] (.bool true) := tells envW_ok 59 100000 rfl tabs_ok (fn := Tryz.f4) (by kernel_rfl) rfl (by kernel_rfl) (bndL0 (by kernel_rfl))
def dA (n : Nat) : UInt8 := UInt8.ofNat (48 + n / 10)
def dB (n : Nat) : UInt8 := UInt8.ofNat (48 + n % 10)
theorem two_all : ((List.range 60).all fun n => comesTo (.str [dA n, dB n]) (callX 30 env 100000 12 9 [.int .i64 (.ofNat n)] { H := startH [], nx := 12 })) = true := by kernel_rfl
theorem rtwo_all : ((List.range 60).all fun n => comesTo (.str [dA n, dB n]) (callX 30 env 100000 12 10 [.int .i64 (.ofNat n)] { H := startH [], nx := 12 })) = true := by kernel_rfl
theorem two_yes (n : Nat) (h : n < 60) (w : World) : Calls Tryz.prog 9 #[.int .i64 n] w fun e w' => e = .returned (.string ⟨#[dA n, dB n]⟩) ∧ Below w.heap.size w w' := by
  have h1 := List.all_eq_true.1 two_all n (List.mem_range.2 h)
  have h2 : Tells Tryz.prog 12 [] 9 [.int .i64 (.ofNat n)] (.str [dA n, dB n]) := tells env_ok 29 100000 rfl (by kernel_rfl) env_f9 rfl h1 (by simp [BndL, Bnd])
  exact h2 (renOf [] (by simp)) w (fun t ht => by cases ht) (fun _ _ => rfl)
theorem rtwo_yes (n : Nat) (h : n < 60) (w : World) : Calls Tryz.prog 10 #[.int .i64 n] w fun e w' => e = .returned (.string ⟨#[dA n, dB n]⟩) ∧ Below w.heap.size w w' := by
  have h1 := List.all_eq_true.1 rtwo_all n (List.mem_range.2 h)
  have h2 : Tells Tryz.prog 12 [] 10 [.int .i64 (.ofNat n)] (.str [dA n, dB n]) := tells env_ok 29 100000 rfl (by kernel_rfl) env_f10 rfl h1 (by simp [BndL, Bnd])
  exact h2 (renOf [] (by simp)) w (fun t ht => by cases ht) (fun _ _ => rfl)
end Go.Proofs.YtmhgnbfpbfekaaaGreatDoor
