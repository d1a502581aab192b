/-
  The functions of the environment that are named below. No condition.
-/
import Derived.Test.YtlakcnaeibkonaaGreatDoorVe
import Derived.Test.YtlakcnaeibkonaaGreatDoorVxZc
import Derived.KernelRfl
namespace Go.Proofs.YtlakcnaeibkonaaGreatDoor
open Go.Vx
set_option maxRecDepth 1000000
theorem env_f44 : env.fn 44 = some Tryz.f44 := by kernel_rfl
theorem env_f107 : env.fn 107 = some Tryz.f107 := by kernel_rfl
theorem env_f14 : env.fn 14 = some Tryz.f14 := by kernel_rfl
theorem env_f20 : env.fn 20 = some Tryz.f20 := by kernel_rfl
theorem env_f4 : env.fn 4 = some Tryz.f4 := by kernel_rfl
/-- The variables that a run reads: ErrSyntax, whatever it holds, and the powers of ten. -/
noncomputable def tabs : List Tab := [⟨0, [.opq 0], 0⟩, ⟨3, [.int .u64 (.ofNat 1), .int .u64 (.ofNat 10), .int .u64 (.ofNat 100), .int .u64 (.ofNat 1000), .int .u64 (.ofNat 10000), .int .u64 (.ofNat 100000), .int .u64 (.ofNat 1000000), .int .u64 (.ofNat 10000000), .int .u64 (.ofNat 100000000), .int .u64 (.ofNat 1000000000), .int .u64 (.ofNat 10000000000), .int .u64 (.ofNat 100000000000), .int .u64 (.ofNat 1000000000000), .int .u64 (.ofNat 10000000000000), .int .u64 (.ofNat 100000000000000), .int .u64 (.ofNat 1000000000000000), .int .u64 (.ofNat 10000000000000000), .int .u64 (.ofNat 100000000000000000), .int .u64 (.ofNat 1000000000000000000), .int .u64 (.ofNat 10000000000000000000)], 0⟩]
theorem tabs_ok : tabsOk 12 tabs = true := by kernel_rfl
theorem tabs_lt : ∀ t ∈ tabs, t.g < 12 := allC (by decide) (allC (by decide) allN)
end Go.Proofs.YtlakcnaeibkonaaGreatDoor
