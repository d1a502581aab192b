/-
  The reference's length: is it one of the four? No condition.
-/
import Derived.Test.YtdkekhaamhphcaaGreatDoorSt
set_option linter.unusedVariables false
set_option linter.unusedSimpArgs false
namespace Go.Proofs.YtdkekhaamhphcaaGreatDoor
open Go.RowKit
set_option maxRecDepth 100000 in
theorem length_yes (x : ByteArray) (hx : x = full ∨ x = long ∨ x = medium ∨ x = short) (w : World) : Calls Tryz.prog 16 #[.string x] w fun e w' => e = .returned (.bool true) ∧ w' = w := by
  unfold full long medium short at hx
  rcases hx with rfl | rfl | rfl | rfl
  all_goals
    go_enter Tryz.func16, Tryz.ntmps16
    go_wp2
    refine bodyPost_ret (v := .bool true) ?_ rfl ⟨rfl, rfl⟩
    simp [results, Tryz.results16, go_sem]
theorem ne_list {x y : ByteArray} {l : List UInt8} (hl : y.data.toList = l) (h : x ≠ y) : ¬ x.toList = l ∧ (x.toList == l) = false := by
  rw [beq_eq_false_iff_ne, and_self_iff]
  intro e
  apply h
  rw [Go.Lib.toList_data, ← hl] at e
  apply ByteArray.ext
  exact Array.toList_inj.1 e
set_option maxRecDepth 100000 in
theorem length_no (x : ByteArray) (h1 : x ≠ full) (h2 : x ≠ long) (h3 : x ≠ medium) (h4 : x ≠ short) (w : World) : Calls Tryz.prog 16 #[.string x] w fun e w' => e = .returned (.bool false) ∧ w' = w := by
  obtain ⟨e1, f1⟩ := ne_list (l := [102, 117, 108, 108]) rfl h1
  obtain ⟨e2, f2⟩ := ne_list (l := [108, 111, 110, 103]) rfl h2
  obtain ⟨e3, f3⟩ := ne_list (l := [109, 101, 100, 105, 117, 109]) rfl h3
  obtain ⟨e4, f4⟩ := ne_list (l := [115, 104, 111, 114, 116]) rfl h4
  clear h1 h2 h3 h4
  go_enter Tryz.func16, Tryz.ntmps16
  go_wp2
  refine bodyPost_ret (v := .bool false) ?_ rfl ⟨rfl, rfl⟩
  simp [results, Tryz.results16, go_sem]
theorem lenB_iff (x : ByteArray) : lenB x = true ↔ x = full ∨ x = long ∨ x = medium ∨ x = short := by
  unfold lenB
  rw [Lib.containsS_iff]
  simp [lens]
theorem length_any (x : ByteArray) (w : World) : Calls Tryz.prog 16 #[.string x] w fun e w' => e = .returned (.bool (lenB x)) ∧ w' = w := by
  cases h : lenB x with
  | true => exact length_yes x ((lenB_iff x).1 h) w
  | false =>
    have hn : ¬ (x = full ∨ x = long ∨ x = medium ∨ x = short) := fun e => by rw [(lenB_iff x).2 e] at h; cases h
    simp only [not_or] at hn
    exact length_no x hn.1 hn.2.1 hn.2.2.1 hn.2.2.2 w
end Go.Proofs.YtdkekhaamhphcaaGreatDoor
