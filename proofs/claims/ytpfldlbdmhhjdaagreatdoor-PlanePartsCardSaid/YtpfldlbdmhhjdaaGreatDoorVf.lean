/-
  The functions of the environment that are named below. No condition.
-/
import Derived.Test.YtpfldlbdmhhjdaaGreatDoorVe
import Derived.Test.YtpfldlbdmhhjdaaGreatDoorVxZc
import Derived.KernelRfl
namespace Go.Proofs.YtpfldlbdmhhjdaaGreatDoor
open Go.Vx
set_option maxRecDepth 1000000
theorem env_f28 : env.fn 28 = some Tryz.f28 := by kernel_rfl
theorem env_f117 : env.fn 117 = some Tryz.f117 := by kernel_rfl
theorem env_f20 : env.fn 20 = some Tryz.f20 := by kernel_rfl
theorem env_f13 : env.fn 13 = some Tryz.f13 := by kernel_rfl
theorem env_f5 : env.fn 5 = some Tryz.f5 := by kernel_rfl
/-- The variables that a run reads: ErrSyntax, whatever it holds, and the powers of ten. -/
noncomputable def tabs : List Tab := [⟨1, [.int .u64 (.ofNat 1), .int .u64 (.ofNat 10), .int .u64 (.ofNat 100), .int .u64 (.ofNat 1000), .int .u64 (.ofNat 10000), .int .u64 (.ofNat 100000), .int .u64 (.ofNat 1000000), .int .u64 (.ofNat 10000000), .int .u64 (.ofNat 100000000), .int .u64 (.ofNat 1000000000), .int .u64 (.ofNat 10000000000), .int .u64 (.ofNat 100000000000), .int .u64 (.ofNat 1000000000000), .int .u64 (.ofNat 10000000000000), .int .u64 (.ofNat 100000000000000), .int .u64 (.ofNat 1000000000000000), .int .u64 (.ofNat 10000000000000000), .int .u64 (.ofNat 100000000000000000), .int .u64 (.ofNat 1000000000000000000), .int .u64 (.ofNat 10000000000000000000)], 0⟩, ⟨8, [.opq 0], 0⟩]
theorem tabs_ok : tabsOk 12 tabs = true := by kernel_rfl
theorem tabs_lt : ∀ t ∈ tabs, t.g < 12 := allC (by decide) (allC (by decide) allN)
end Go.Proofs.YtpfldlbdmhhjdaaGreatDoor
