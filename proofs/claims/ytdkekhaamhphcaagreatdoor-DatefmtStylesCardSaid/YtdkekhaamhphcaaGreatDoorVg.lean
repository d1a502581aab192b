/-
  utf.Name at the names that wakes asks. No condition.
-/
import Derived.Test.YtdkekhaamhphcaaGreatDoorVf
import Derived.KernelRfl
namespace Go.Proofs.YtdkekhaamhphcaaGreatDoor
open Go.Vx
set_option maxRecDepth 1000000
theorem nm0 : Tells Tryz.prog 12 [] 159 [(.str [100, 97, 116, 101, 115])] (.bool true) := tells env_ok 29 100000 rfl (by kernel_rfl) (fn := Tryz.f159) env_f159 rfl (by kernel_rfl) (bndL0 (by kernel_rfl))
theorem nm1 : Tells Tryz.prog 12 [] 159 [(.str [116, 121, 112, 101])] (.bool true) := tells env_ok 29 100000 rfl (by kernel_rfl) (fn := Tryz.f159) env_f159 rfl (by kernel_rfl) (bndL0 (by kernel_rfl))
theorem nm2 : Tells Tryz.prog 12 [] 159 [(.str [99, 97, 108, 101, 110, 100, 97, 114])] (.bool true) := tells env_ok 29 100000 rfl (by kernel_rfl) (fn := Tryz.f159) env_f159 rfl (by kernel_rfl) (bndL0 (by kernel_rfl))
theorem nm3 : Tells Tryz.prog 12 [] 159 [(.str [100, 97, 116, 101, 70, 111, 114, 109, 97, 116, 115])] (.bool true) := tells env_ok 29 100000 rfl (by kernel_rfl) (fn := Tryz.f159) env_f159 rfl (by kernel_rfl) (bndL0 (by kernel_rfl))
theorem nm4 : Tells Tryz.prog 12 [] 159 [(.str [112, 97, 116, 116, 101, 114, 110])] (.bool true) := tells env_ok 29 100000 rfl (by kernel_rfl) (fn := Tryz.f159) env_f159 rfl (by kernel_rfl) (bndL0 (by kernel_rfl))
theorem nm5 : Tells Tryz.prog 12 [] 159 [(.str [110, 117, 109, 98, 101, 114, 115])] (.bool true) := tells env_ok 29 100000 rfl (by kernel_rfl) (fn := Tryz.f159) env_f159 rfl (by kernel_rfl) (bndL0 (by kernel_rfl))
theorem nm6 : Tells Tryz.prog 12 [] 159 [(.str [100, 101, 102, 97, 117, 108, 116, 78, 117, 109, 98, 101, 114, 105, 110, 103, 83, 121, 115, 116, 101, 109])] (.bool true) := tells env_ok 29 100000 rfl (by kernel_rfl) (fn := Tryz.f159) env_f159 rfl (by kernel_rfl) (bndL0 (by kernel_rfl))
theorem nm7 : Tells Tryz.prog 12 [] 159 [(.str [105, 100])] (.bool true) := tells env_ok 29 100000 rfl (by kernel_rfl) (fn := Tryz.f159) env_f159 rfl (by kernel_rfl) (bndL0 (by kernel_rfl))
theorem nm8 : Tells Tryz.prog 12 [] 159 [(.str [100, 105, 103, 105, 116, 115])] (.bool true) := tells env_ok 29 100000 rfl (by kernel_rfl) (fn := Tryz.f159) env_f159 rfl (by kernel_rfl) (bndL0 (by kernel_rfl))
theorem nm9 : Tells Tryz.prog 12 [] 159 [(.str [116, 105, 109, 101, 70, 111, 114, 109, 97, 116, 115])] (.bool true) := tells env_ok 29 100000 rfl (by kernel_rfl) (fn := Tryz.f159) env_f159 rfl (by kernel_rfl) (bndL0 (by kernel_rfl))
theorem nm10 : Tells Tryz.prog 12 [] 159 [(.str [100, 97, 116, 101, 84, 105, 109, 101, 70, 111, 114, 109, 97, 116, 115])] (.bool true) := tells env_ok 29 100000 rfl (by kernel_rfl) (fn := Tryz.f159) env_f159 rfl (by kernel_rfl) (bndL0 (by kernel_rfl))
noncomputable def nmT : List (List AV × AV) := [([(.str [100, 97, 116, 101, 115])], (.bool true)), ([(.str [116, 121, 112, 101])], (.bool true)), ([(.str [99, 97, 108, 101, 110, 100, 97, 114])], (.bool true)), ([(.str [100, 97, 116, 101, 70, 111, 114, 109, 97, 116, 115])], (.bool true)), ([(.str [112, 97, 116, 116, 101, 114, 110])], (.bool true)), ([(.str [110, 117, 109, 98, 101, 114, 115])], (.bool true)), ([(.str [100, 101, 102, 97, 117, 108, 116, 78, 117, 109, 98, 101, 114, 105, 110, 103, 83, 121, 115, 116, 101, 109])], (.bool true)), ([(.str [105, 100])], (.bool true)), ([(.str [100, 105, 103, 105, 116, 115])], (.bool true)), ([(.str [116, 105, 109, 101, 70, 111, 114, 109, 97, 116, 115])], (.bool true)), ([(.str [100, 97, 116, 101, 84, 105, 109, 101, 70, 111, 114, 109, 97, 116, 115])], (.bool true))]
theorem nm_sum : SumOk Tryz.prog 12 159 (memoX 12 [] nmT) := memo_ok Tryz.call159 (fun _ h => by cases h) (allC ⟨nm0, bnd0 (by kernel_rfl)⟩ (allC ⟨nm1, bnd0 (by kernel_rfl)⟩ (allC ⟨nm2, bnd0 (by kernel_rfl)⟩ (allC ⟨nm3, bnd0 (by kernel_rfl)⟩ (allC ⟨nm4, bnd0 (by kernel_rfl)⟩ (allC ⟨nm5, bnd0 (by kernel_rfl)⟩ (allC ⟨nm6, bnd0 (by kernel_rfl)⟩ (allC ⟨nm7, bnd0 (by kernel_rfl)⟩ (allC ⟨nm8, bnd0 (by kernel_rfl)⟩ (allC ⟨nm9, bnd0 (by kernel_rfl)⟩ (allC ⟨nm10, bnd0 (by kernel_rfl)⟩ allN)))))))))))
end Go.Proofs.YtdkekhaamhphcaaGreatDoor
