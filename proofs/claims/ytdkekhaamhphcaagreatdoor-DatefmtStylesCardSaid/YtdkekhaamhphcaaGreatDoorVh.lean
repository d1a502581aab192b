/-
  strings.Repeat at what wakes asks. No condition.
-/
import Derived.Test.YtdkekhaamhphcaaGreatDoorVf
import Derived.Test.YtdkekhaamhphcaaGreatDoorShelf
import Derived.KernelRfl
namespace Go.Proofs.YtdkekhaamhphcaaGreatDoor
open Go.Vx
set_option maxRecDepth 1000000
theorem rep_tells (l r : List UInt8) (c : Nat) (hl : l.length ≤ 1) (hc : c ≤ 2) (h : Lib.repeatL l c = r) : Tells Tryz.prog 12 [] 65 [.str l, .int .i64 (.ofNat c)] (.str r) := by
  intro R w _ _
  have hz : (⟨⟨l⟩⟩ : ByteArray).size * c ≤ 140737488355328 := by
    have h1 : (⟨⟨l⟩⟩ : ByteArray).size ≤ 1 := hl
    have := Nat.mul_le_mul h1 hc
    omega
  have := Tryz.strings_Repeat ⟨⟨l⟩⟩ c w (by omega) hz
  rw [show (⟨⟨l⟩⟩ : ByteArray).data.toList = l from rfl, h] at this
  exact this
theorem rp0 : Tells Tryz.prog 12 [] 65 [.str [48], .int .i64 (.ofNat 0)] (.str []) := rep_tells _ _ _ (by decide) (by decide) (by decide)
theorem rp1 : Tells Tryz.prog 12 [] 65 [.str [48], .int .i64 (.ofNat 1)] (.str [48]) := rep_tells _ _ _ (by decide) (by decide) (by decide)
theorem rp2 : Tells Tryz.prog 12 [] 65 [.str [121], .int .i64 (.ofNat 1)] (.str [121]) := rep_tells _ _ _ (by decide) (by decide) (by decide)
theorem rp3 : Tells Tryz.prog 12 [] 65 [.str [72], .int .i64 (.ofNat 2)] (.str [72, 72]) := rep_tells _ _ _ (by decide) (by decide) (by decide)
theorem rp4 : Tells Tryz.prog 12 [] 65 [.str [77], .int .i64 (.ofNat 2)] (.str [77, 77]) := rep_tells _ _ _ (by decide) (by decide) (by decide)
theorem rp5 : Tells Tryz.prog 12 [] 65 [.str [100], .int .i64 (.ofNat 2)] (.str [100, 100]) := rep_tells _ _ _ (by decide) (by decide) (by decide)
theorem rp6 : Tells Tryz.prog 12 [] 65 [.str [109], .int .i64 (.ofNat 2)] (.str [109, 109]) := rep_tells _ _ _ (by decide) (by decide) (by decide)
theorem rp7 : Tells Tryz.prog 12 [] 65 [.str [115], .int .i64 (.ofNat 2)] (.str [115, 115]) := rep_tells _ _ _ (by decide) (by decide) (by decide)
noncomputable def rpT : List (List AV × AV) := [([.str [48], .int .i64 (.ofNat 0)], .str []), ([.str [48], .int .i64 (.ofNat 1)], .str [48]), ([.str [121], .int .i64 (.ofNat 1)], .str [121]), ([.str [72], .int .i64 (.ofNat 2)], .str [72, 72]), ([.str [77], .int .i64 (.ofNat 2)], .str [77, 77]), ([.str [100], .int .i64 (.ofNat 2)], .str [100, 100]), ([.str [109], .int .i64 (.ofNat 2)], .str [109, 109]), ([.str [115], .int .i64 (.ofNat 2)], .str [115, 115])]
theorem rp_sum : SumOk Tryz.prog 12 65 (memoX 12 [] rpT) := memo_ok Tryz.call65 (fun _ h => by cases h) (allC ⟨rp0, bnd0 (by kernel_rfl)⟩ (allC ⟨rp1, bnd0 (by kernel_rfl)⟩ (allC ⟨rp2, bnd0 (by kernel_rfl)⟩ (allC ⟨rp3, bnd0 (by kernel_rfl)⟩ (allC ⟨rp4, bnd0 (by kernel_rfl)⟩ (allC ⟨rp5, bnd0 (by kernel_rfl)⟩ (allC ⟨rp6, bnd0 (by kernel_rfl)⟩ (allC ⟨rp7, bnd0 (by kernel_rfl)⟩ allN))))))))
end Go.Proofs.YtdkekhaamhphcaaGreatDoor
