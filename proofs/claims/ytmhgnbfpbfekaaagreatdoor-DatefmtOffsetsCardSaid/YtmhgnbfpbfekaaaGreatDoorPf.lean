/-
  The walk of DatefmtOffsets, to its end. Condition: what the listed variables hold.
-/
import Derived.Test.YtmhgnbfpbfekaaaGreatDoorPe
import Derived.Lib.LaidTab
set_option linter.unusedVariables false
namespace Go.Proofs.YtmhgnbfpbfekaaaGreatDoor
open Go.RowKit Go.Vx
/-- What the listed variables give. -/
structure Glob (w : World) : Prop where
  pow : Lib.TabIs Tryz.prog w "internal/strconv.uint64pow10" .u64 Lib.pow10Tab
  spc : ∃ e fz cs, w.heap[0]? = some (.cells cs e fz) ∧ ∃ l, cs.toList = concL (renOf [] (by simp)) l ∧ tabs[0]? = some ⟨0, l, 0⟩
theorem gPow : Tryz.prog.globalNamed "internal/strconv.uint64pow10" = some 2 := by kernel_rfl
theorem laid_of_glob {w : World} (h : Glob w) : Laid (renOf [] (by simp)) tabs w := by
  obtain ⟨hp, e, fz, cs, h1, l, h2, h3⟩ := h
  have hl : (⟨0, l, 0⟩ : Tab) = ⟨0, _, 0⟩ := (Option.some.inj ((show tabs[0]? = some ⟨0, _, 0⟩ from rfl).symm.trans h3)).symm
  obtain rfl := (Tab.mk.inj hl).2.1
  refine allC (laid_tab (t := ⟨0, _, 0⟩) ⟨e, fz, h1⟩ h2) (allC ?_ allN)
  exact laid_tab (t := ⟨2, _, 0⟩) (heap_of_var gPow hp) (by kernel_rfl)
theorem wakes_yes {w : World} (h : Glob w) : Calls Tryz.prog 4 #[] w fun e w' => e = .returned (.bool true) ∧ Below w.heap.size w w' :=
  wakes_told (renOf [] (by simp)) w (laid_of_glob h) (fun _ _ => rfl)
set_option maxHeartbeats 4000000 in
theorem badA (o l c : Int) (h : o < -86399) (w : World) : Calls Tryz.prog 5 #[.int .i64 o, .int .u8 l, .int .i64 c] w fun e w' => e = .returned (.tuple #[.string ⟨#[]⟩, .int .i64 2]) ∧ Below w.heap.size w w' := by
  have g0 : o < -86399 := h
  go_enter Tryz.func5, Tryz.ntmps5
  go_wp2_with fail
  go_ret2
  exact ⟨rfl, Below.refl _ _⟩
set_option maxHeartbeats 4000000 in
theorem lawA (o l c : Int) (h : o < -86399) (w : World) (hg : Glob w) : Calls Tryz.prog 3 #[.int .i64 o, .int .u8 l, .int .i64 c] w fun e w' => e = .returned (.bool true) ∧ Below w.heap.size w w' := by
  have HK := fun (w : World) (hg : Glob w) => wakes_yes hg
  have HO := badA o l c h
  have g0 : o < -86399 := h
  go_enter Tryz.func3, Tryz.ntmps3
  go_wp2_with fail
  refine (HK _ hg).mono ?_
  rintro e w1 ⟨rfl, hb1⟩
  go_wp2_with fail
  refine (HO _).mono ?_
  rintro e w2 ⟨rfl, hb2⟩
  have hb3 := hb1.trans (hb2.mono hb1.size)
  clear hb1 hb2
  go_wp2_with fail
  go_ret
  exact ⟨rfl, hb3⟩
set_option maxHeartbeats 4000000 in
theorem badB (o l c : Int) (h0 : ¬ o < -86399) (h : 86399 < o) (w : World) : Calls Tryz.prog 5 #[.int .i64 o, .int .u8 l, .int .i64 c] w fun e w' => e = .returned (.tuple #[.string ⟨#[]⟩, .int .i64 2]) ∧ Below w.heap.size w w' := by
  have g0 : ¬ o < -86399 := h0
  have g1 : (86399 : Int) < o := h
  go_enter Tryz.func5, Tryz.ntmps5
  go_wp2_with fail
  go_ret2
  exact ⟨rfl, Below.refl _ _⟩
set_option maxHeartbeats 4000000 in
theorem lawB (o l c : Int) (h0 : ¬ o < -86399) (h : 86399 < o) (w : World) (hg : Glob w) : Calls Tryz.prog 3 #[.int .i64 o, .int .u8 l, .int .i64 c] w fun e w' => e = .returned (.bool true) ∧ Below w.heap.size w w' := by
  have HK := fun (w : World) (hg : Glob w) => wakes_yes hg
  have HO := badB o l c h0 h
  have g0 : ¬ o < -86399 := h0
  have g1 : (86399 : Int) < o := h
  go_enter Tryz.func3, Tryz.ntmps3
  go_wp2_with fail
  refine (HK _ hg).mono ?_
  rintro e w1 ⟨rfl, hb1⟩
  go_wp2_with fail
  refine (HO _).mono ?_
  rintro e w2 ⟨rfl, hb2⟩
  have hb3 := hb1.trans (hb2.mono hb1.size)
  clear hb1 hb2
  go_wp2_with fail
  go_ret
  exact ⟨rfl, hb3⟩
set_option maxHeartbeats 4000000 in
theorem badC (o l c : Int) (h0 : ¬ o < -86399) (h1 : ¬ 86399 < o) (hl : l ≠ 90) (hk : l ≠ 120) (w : World) : Calls Tryz.prog 5 #[.int .i64 o, .int .u8 l, .int .i64 c] w fun e w' => e = .returned (.tuple #[.string ⟨#[]⟩, .int .i64 2]) ∧ Below w.heap.size w w' := by
  have g0 : ¬ o < -86399 := h0
  have g1 : ¬ (86399 : Int) < o := h1
  have g2 : (l != 90) = true := bne_iff_ne.2 hl
  have g3 : (l != 120) = true := bne_iff_ne.2 hk
  have g4 : (l == 90) = false := beq_eq_false_iff_ne.2 hl
  have g5 : (l == 120) = false := beq_eq_false_iff_ne.2 hk
  go_enter Tryz.func5, Tryz.ntmps5
  go_wp2_with fail
  go_ret2
  exact ⟨rfl, Below.refl _ _⟩
set_option maxHeartbeats 4000000 in
theorem lawC (o l c : Int) (h0 : ¬ o < -86399) (h1 : ¬ 86399 < o) (hl : l ≠ 90) (hk : l ≠ 120) (w : World) (hg : Glob w) : Calls Tryz.prog 3 #[.int .i64 o, .int .u8 l, .int .i64 c] w fun e w' => e = .returned (.bool true) ∧ Below w.heap.size w w' := by
  have HK := fun (w : World) (hg : Glob w) => wakes_yes hg
  have HO := badC o l c h0 h1 hl hk
  have g0 : ¬ o < -86399 := h0
  have g1 : ¬ (86399 : Int) < o := h1
  have g2 : (l != 90) = true := bne_iff_ne.2 hl
  have g3 : (l != 120) = true := bne_iff_ne.2 hk
  have g4 : (l == 90) = false := beq_eq_false_iff_ne.2 hl
  have g5 : (l == 120) = false := beq_eq_false_iff_ne.2 hk
  go_enter Tryz.func3, Tryz.ntmps3
  go_wp2_with fail
  refine (HK _ hg).mono ?_
  rintro e w1 ⟨rfl, hb1⟩
  go_wp2_with fail
  refine (HO _).mono ?_
  rintro e w2 ⟨rfl, hb2⟩
  have hb3 := hb1.trans (hb2.mono hb1.size)
  clear hb1 hb2
  go_wp2_with fail
  go_ret
  exact ⟨rfl, hb3⟩
set_option maxHeartbeats 4000000 in
theorem badD90 (o c : Int) (h0 : ¬ o < -86399) (h1 : ¬ 86399 < o) (h : c < 1) (w : World) : Calls Tryz.prog 5 #[.int .i64 o, .int .u8 90, .int .i64 c] w fun e w' => e = .returned (.tuple #[.string ⟨#[]⟩, .int .i64 2]) ∧ Below w.heap.size w w' := by
  have g0 : ¬ o < -86399 := h0
  have g1 : ¬ (86399 : Int) < o := h1
  have g2 : c < 1 := h
  go_enter Tryz.func5, Tryz.ntmps5
  go_wp2_with fail
  go_ret2
  exact ⟨rfl, Below.refl _ _⟩
set_option maxHeartbeats 4000000 in
theorem lawD90 (o c : Int) (h0 : ¬ o < -86399) (h1 : ¬ 86399 < o) (h : c < 1) (w : World) (hg : Glob w) : Calls Tryz.prog 3 #[.int .i64 o, .int .u8 90, .int .i64 c] w fun e w' => e = .returned (.bool true) ∧ Below w.heap.size w w' := by
  have HK := fun (w : World) (hg : Glob w) => wakes_yes hg
  have HO := badD90 o c h0 h1 h
  have g0 : ¬ o < -86399 := h0
  have g1 : ¬ (86399 : Int) < o := h1
  have g2 : c < 1 := h
  go_enter Tryz.func3, Tryz.ntmps3
  go_wp2_with fail
  refine (HK _ hg).mono ?_
  rintro e w1 ⟨rfl, hb1⟩
  go_wp2_with fail
  refine (HO _).mono ?_
  rintro e w2 ⟨rfl, hb2⟩
  have hb3 := hb1.trans (hb2.mono hb1.size)
  clear hb1 hb2
  go_wp2_with fail
  go_ret
  exact ⟨rfl, hb3⟩
set_option maxHeartbeats 4000000 in
theorem badE90 (o c : Int) (h0 : ¬ o < -86399) (h1 : ¬ 86399 < o) (h2 : ¬ c < 1) (h : 5 < c) (w : World) : Calls Tryz.prog 5 #[.int .i64 o, .int .u8 90, .int .i64 c] w fun e w' => e = .returned (.tuple #[.string ⟨#[]⟩, .int .i64 2]) ∧ Below w.heap.size w w' := by
  have g0 : ¬ o < -86399 := h0
  have g1 : ¬ (86399 : Int) < o := h1
  have g2 : ¬ c < 1 := h2
  have g3 : (5 : Int) < c := h
  go_enter Tryz.func5, Tryz.ntmps5
  go_wp2_with fail
  go_ret2
  exact ⟨rfl, Below.refl _ _⟩
set_option maxHeartbeats 4000000 in
theorem lawE90 (o c : Int) (h0 : ¬ o < -86399) (h1 : ¬ 86399 < o) (h2 : ¬ c < 1) (h : 5 < c) (w : World) (hg : Glob w) : Calls Tryz.prog 3 #[.int .i64 o, .int .u8 90, .int .i64 c] w fun e w' => e = .returned (.bool true) ∧ Below w.heap.size w w' := by
  have HK := fun (w : World) (hg : Glob w) => wakes_yes hg
  have HO := badE90 o c h0 h1 h2 h
  have g0 : ¬ o < -86399 := h0
  have g1 : ¬ (86399 : Int) < o := h1
  have g2 : ¬ c < 1 := h2
  have g3 : (5 : Int) < c := h
  go_enter Tryz.func3, Tryz.ntmps3
  go_wp2_with fail
  refine (HK _ hg).mono ?_
  rintro e w1 ⟨rfl, hb1⟩
  go_wp2_with fail
  refine (HO _).mono ?_
  rintro e w2 ⟨rfl, hb2⟩
  have hb3 := hb1.trans (hb2.mono hb1.size)
  clear hb1 hb2
  go_wp2_with fail
  go_ret
  exact ⟨rfl, hb3⟩
set_option maxHeartbeats 4000000 in
theorem badD120 (o c : Int) (h0 : ¬ o < -86399) (h1 : ¬ 86399 < o) (h : c < 1) (w : World) : Calls Tryz.prog 5 #[.int .i64 o, .int .u8 120, .int .i64 c] w fun e w' => e = .returned (.tuple #[.string ⟨#[]⟩, .int .i64 2]) ∧ Below w.heap.size w w' := by
  have g0 : ¬ o < -86399 := h0
  have g1 : ¬ (86399 : Int) < o := h1
  have g2 : c < 1 := h
  go_enter Tryz.func5, Tryz.ntmps5
  go_wp2_with fail
  go_ret2
  exact ⟨rfl, Below.refl _ _⟩
set_option maxHeartbeats 4000000 in
theorem lawD120 (o c : Int) (h0 : ¬ o < -86399) (h1 : ¬ 86399 < o) (h : c < 1) (w : World) (hg : Glob w) : Calls Tryz.prog 3 #[.int .i64 o, .int .u8 120, .int .i64 c] w fun e w' => e = .returned (.bool true) ∧ Below w.heap.size w w' := by
  have HK := fun (w : World) (hg : Glob w) => wakes_yes hg
  have HO := badD120 o c h0 h1 h
  have g0 : ¬ o < -86399 := h0
  have g1 : ¬ (86399 : Int) < o := h1
  have g2 : c < 1 := h
  go_enter Tryz.func3, Tryz.ntmps3
  go_wp2_with fail
  refine (HK _ hg).mono ?_
  rintro e w1 ⟨rfl, hb1⟩
  go_wp2_with fail
  refine (HO _).mono ?_
  rintro e w2 ⟨rfl, hb2⟩
  have hb3 := hb1.trans (hb2.mono hb1.size)
  clear hb1 hb2
  go_wp2_with fail
  go_ret
  exact ⟨rfl, hb3⟩
set_option maxHeartbeats 4000000 in
theorem badE120 (o c : Int) (h0 : ¬ o < -86399) (h1 : ¬ 86399 < o) (h2 : ¬ c < 1) (h : 5 < c) (w : World) : Calls Tryz.prog 5 #[.int .i64 o, .int .u8 120, .int .i64 c] w fun e w' => e = .returned (.tuple #[.string ⟨#[]⟩, .int .i64 2]) ∧ Below w.heap.size w w' := by
  have g0 : ¬ o < -86399 := h0
  have g1 : ¬ (86399 : Int) < o := h1
  have g2 : ¬ c < 1 := h2
  have g3 : (5 : Int) < c := h
  go_enter Tryz.func5, Tryz.ntmps5
  go_wp2_with fail
  go_ret2
  exact ⟨rfl, Below.refl _ _⟩
set_option maxHeartbeats 4000000 in
theorem lawE120 (o c : Int) (h0 : ¬ o < -86399) (h1 : ¬ 86399 < o) (h2 : ¬ c < 1) (h : 5 < c) (w : World) (hg : Glob w) : Calls Tryz.prog 3 #[.int .i64 o, .int .u8 120, .int .i64 c] w fun e w' => e = .returned (.bool true) ∧ Below w.heap.size w w' := by
  have HK := fun (w : World) (hg : Glob w) => wakes_yes hg
  have HO := badE120 o c h0 h1 h2 h
  have g0 : ¬ o < -86399 := h0
  have g1 : ¬ (86399 : Int) < o := h1
  have g2 : ¬ c < 1 := h2
  have g3 : (5 : Int) < c := h
  go_enter Tryz.func3, Tryz.ntmps3
  go_wp2_with fail
  refine (HK _ hg).mono ?_
  rintro e w1 ⟨rfl, hb1⟩
  go_wp2_with fail
  refine (HO _).mono ?_
  rintro e w2 ⟨rfl, hb2⟩
  have hb3 := hb1.trans (hb2.mono hb1.size)
  clear hb1 hb2
  go_wp2_with fail
  go_ret
  exact ⟨rfl, hb3⟩
set_option maxHeartbeats 4000000 in
theorem good90 (o c : Int) (h0 : ¬ o < -86399) (h1 : ¬ 86399 < o) (h2 : ¬ c < 1) (h3 : ¬ 5 < c) (w : World) (hg : Glob w) : Calls Tryz.prog 3 #[.int .i64 o, .int .u8 90, .int .i64 c] w fun e w' => e = .returned (.bool true) ∧ Below w.heap.size w w' := by
  have HK := fun (w : World) (hg : Glob w) => wakes_yes hg
  obtain ⟨V, HO, HR⟩ := both_any o 90 c (by omega) (by omega) (by decide) (by omega) (by omega)
  have g0 : ¬ o < -86399 := h0
  have g1 : ¬ (86399 : Int) < o := h1
  have g2 : ¬ c < 1 := h2
  have g3 : ¬ (5 : Int) < c := h3
  go_enter Tryz.func3, Tryz.ntmps3
  go_wp2_with fail
  refine (HK _ hg).mono ?_
  rintro e w1 ⟨rfl, hb1⟩
  go_wp2_with fail
  refine (HO _).mono ?_
  rintro e w2 ⟨rfl, hb2⟩
  have hb3 := hb1.trans (hb2.mono hb1.size)
  clear hb1 hb2
  go_wp2_with fail
  refine (HR _).mono ?_
  rintro e w4 ⟨rfl, hb4⟩
  have hb5 := hb3.trans (hb4.mono hb3.size)
  clear hb3 hb4
  go_wp2_with fail
  go_ret
  exact ⟨rfl, hb5⟩
set_option maxHeartbeats 4000000 in
theorem good120 (o c : Int) (h0 : ¬ o < -86399) (h1 : ¬ 86399 < o) (h2 : ¬ c < 1) (h3 : ¬ 5 < c) (w : World) (hg : Glob w) : Calls Tryz.prog 3 #[.int .i64 o, .int .u8 120, .int .i64 c] w fun e w' => e = .returned (.bool true) ∧ Below w.heap.size w w' := by
  have HK := fun (w : World) (hg : Glob w) => wakes_yes hg
  obtain ⟨V, HO, HR⟩ := both_any o 120 c (by omega) (by omega) (by decide) (by omega) (by omega)
  have g0 : ¬ o < -86399 := h0
  have g1 : ¬ (86399 : Int) < o := h1
  have g2 : ¬ c < 1 := h2
  have g3 : ¬ (5 : Int) < c := h3
  go_enter Tryz.func3, Tryz.ntmps3
  go_wp2_with fail
  refine (HK _ hg).mono ?_
  rintro e w1 ⟨rfl, hb1⟩
  go_wp2_with fail
  refine (HO _).mono ?_
  rintro e w2 ⟨rfl, hb2⟩
  have hb3 := hb1.trans (hb2.mono hb1.size)
  clear hb1 hb2
  go_wp2_with fail
  refine (HR _).mono ?_
  rintro e w4 ⟨rfl, hb4⟩
  have hb5 := hb3.trans (hb4.mono hb3.size)
  clear hb3 hb4
  go_wp2_with fail
  go_ret
  exact ⟨rfl, hb5⟩
theorem offsets_yes (o l c : Int) (w : World) (hg : Glob w) : Calls Tryz.prog 3 #[.int .i64 o, .int .u8 l, .int .i64 c] w fun e w' => e = .returned (.bool true) ∧ Below w.heap.size w w' := by
  by_cases h0 : o < -86399
  · exact lawA o l c h0 w hg
  · by_cases h1 : 86399 < o
    · exact lawB o l c h0 h1 w hg
    · by_cases hl : l = 90
      · subst hl
        by_cases h2 : c < 1
        · exact lawD90 o c h0 h1 h2 w hg
        · by_cases h3 : 5 < c
          · exact lawE90 o c h0 h1 h2 h3 w hg
          · exact good90 o c h0 h1 h2 h3 w hg
      · by_cases hk : l = 120
        · subst hk
          by_cases h2 : c < 1
          · exact lawD120 o c h0 h1 h2 w hg
          · by_cases h3 : 5 < c
            · exact lawE120 o c h0 h1 h2 h3 w hg
            · exact good120 o c h0 h1 h2 h3 w hg
        · exact lawC o l c h0 h1 hl hk w hg
end Go.Proofs.YtmhgnbfpbfekaaaGreatDoor
