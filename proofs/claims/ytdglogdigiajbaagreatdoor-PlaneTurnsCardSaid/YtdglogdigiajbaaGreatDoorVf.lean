/-
  The functions of the environment that are named below. No condition.
-/
import Derived.Test.YtdglogdigiajbaaGreatDoorVe
import Derived.Test.YtdglogdigiajbaaGreatDoorVxZc
import Derived.KernelRfl
namespace Go.Proofs.YtdglogdigiajbaaGreatDoor
open Go.Vx
set_option maxRecDepth 1000000
theorem env_f35 : env.fn 35 = some Tryz.f35 := by kernel_rfl
theorem env_f91 : env.fn 91 = some Tryz.f91 := by kernel_rfl
theorem env_f14 : env.fn 14 = some Tryz.f14 := by kernel_rfl
theorem env_f17 : env.fn 17 = some Tryz.f17 := by kernel_rfl
theorem env_f4 : env.fn 4 = some Tryz.f4 := by kernel_rfl
/-- The variables that a run reads: ErrSyntax, whatever it holds, and the powers of ten. -/
noncomputable def tabs : List Tab := [⟨3, [.int .u64 (.ofNat 1), .int .u64 (.ofNat 10), .int .u64 (.ofNat 100), .int .u64 (.ofNat 1000), .int .u64 (.ofNat 10000), .int .u64 (.ofNat 100000), .int .u64 (.ofNat 1000000), .int .u64 (.ofNat 10000000), .int .u64 (.ofNat 100000000), .int .u64 (.ofNat 1000000000), .int .u64 (.ofNat 10000000000), .int .u64 (.ofNat 100000000000), .int .u64 (.ofNat 1000000000000), .int .u64 (.ofNat 10000000000000), .int .u64 (.ofNat 100000000000000), .int .u64 (.ofNat 1000000000000000), .int .u64 (.ofNat 10000000000000000), .int .u64 (.ofNat 100000000000000000), .int .u64 (.ofNat 1000000000000000000), .int .u64 (.ofNat 10000000000000000000)], 0⟩, ⟨6, [.opq 0], 0⟩]
theorem tabs_ok : tabsOk 12 tabs = true := by kernel_rfl
theorem tabs_lt : ∀ t ∈ tabs, t.g < 12 := allC (by decide) (allC (by decide) allN)
end Go.Proofs.YtdglogdigiajbaaGreatDoor
