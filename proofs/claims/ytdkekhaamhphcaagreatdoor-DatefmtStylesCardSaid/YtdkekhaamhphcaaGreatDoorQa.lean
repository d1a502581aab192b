/-
  What the listed variables give; the layer wakes; the candidates; the reference's skeletons of them. Condition: what the listed variables hold.
-/
import Derived.Test.YtdkekhaamhphcaaGreatDoorVj
import Derived.Test.YtdkekhaamhphcaaGreatDoorVk
import Derived.Test.YtdkekhaamhphcaaGreatDoorSr
import Derived.Test.YtdkekhaamhphcaaGreatDoorBv
import Derived.Lib.LaidTab
set_option linter.unusedVariables false
set_option linter.unusedSimpArgs false
namespace Go.Proofs.YtdkekhaamhphcaaGreatDoor
open Go.RowKit Go.Vx
/-- What the listed variables give. -/
structure Glob (w : World) : Prop where
  pow : Lib.TabIs Tryz.prog w "internal/strconv.uint64pow10" .u64 Lib.pow10Tab
  spc : Spc w
theorem gPow : Tryz.prog.globalNamed "internal/strconv.uint64pow10" = some 3 := by kernel_rfl
theorem Glob.below {w w' : World} (h : Glob w) (hb : Below w.heap.size w w') : Glob w' := ⟨tab_below gPow h.pow hb, h.spc.below hb⟩
theorem laid_of_glob {w : World} (h : Glob w) : Laid (renOf [] (by simp)) tabs w :=
  allC (laid_tab (t := ⟨0, _, 0⟩) (heap_of_var gSpc h.spc) (by kernel_rfl)) (allC (laid_tab (t := ⟨3, _, 0⟩) (heap_of_var gPow h.pow) (by kernel_rfl)) allN)
theorem wakes_yes {w : World} (h : Glob w) : Calls Tryz.prog 4 #[] w fun e w' => e = .returned (.bool true) ∧ Below w.heap.size w w' :=
  wakes_told (renOf [] (by simp)) w (laid_of_glob h) (fun _ _ => rfl)
def candB : List ByteArray := (candL.take 28).map fun l => ⟨l.toArray⟩
theorem candB_len : candB.length = 28 := rfl
def candT : ByteArray := ⟨#[100, 32, 69, 32, 69, 100, 32, 71, 121, 32, 71, 121, 77, 77, 77, 32, 72, 32, 104, 32, 72, 109, 32, 104, 109, 32, 72, 109, 115, 32, 104, 109, 115, 32, 77, 32, 77, 100, 32, 77, 69, 100, 32, 77, 77, 77, 32, 77, 77, 77, 100, 32, 77, 77, 77, 69, 100, 32, 77, 77, 77, 77, 100, 32, 109, 115, 32, 121, 32, 121, 77, 32, 121, 77, 100, 32, 121, 77, 69, 100, 32, 121, 77, 77, 77, 32, 121, 77, 77, 77, 100, 32, 121, 77, 77, 77, 69, 100, 32, 121, 77, 77, 77, 77, 32, 121, 119]⟩
theorem fields_cand : (Lib.fields candT.data.toList).map (fun l => Value.string ⟨l.toArray⟩) = candB.map Value.string := by kernel_rfl
theorem fields_cand_len : (Lib.fields candT.data.toList).length = 28 := by kernel_rfl
theorem cand_fields (w : World) (hg : Spc w) : Calls Tryz.prog 14 #[.string candT] w fun e w' => e = .returned (.slice (some ⟨w.heap.size, 0, none⟩) 28 28) ∧ w' = w.alloc (.cells (candB.map Value.string).toArray 9) := by
  have h := Tryz.strings_Fields_laid candT w (by decide) (by
    intro j b hb
    have : ∀ b ∈ candT.data.toList, b.toNat < 128 := by decide
    exact this b (List.mem_of_getElem? hb)) hg
  rw [fields_cand, fields_cand_len] at h
  exact h
set_option maxRecDepth 100000 in
theorem vals_any (a : Option Addr) (n c : Nat) (w : World) : Calls Tryz.prog 18 #[.slice a n c] w fun e w' => e = .returned (.func (.func 43) #[] #[.pointer (some ⟨w.heap.size, 0, none⟩)]) ∧ w' = w.alloc (.cells #[.slice a n c] 52) := by
  go_enter Tryz.func18, Tryz.ntmps18
  go_wp2
  go_ret
  exact ⟨rfl, rfl⟩
set_option maxRecDepth 100000 in
set_option maxHeartbeats 2000000 in
theorem cands_any (w : World) (hg : Spc w) : Calls Tryz.prog 7 #[] w fun e w' => e = .returned (.func (.func 43) #[] #[.pointer (some ⟨w.heap.size + 1, 0, none⟩)]) ∧
    w' = (w.alloc (.cells (candB.map Value.string).toArray 9)).alloc (.cells #[.slice (some ⟨w.heap.size, 0, none⟩) 28 28] 52) := by
  have HF := cand_fields w hg
  have HV := vals_any (some ⟨w.heap.size, 0, none⟩) 28 28 (w.alloc (.cells (candB.map Value.string).toArray 9))
  simp only [World.size_alloc] at HV
  unfold candT at HF
  generalize (Obj.cells (candB.map Value.string).toArray 9) = ob at *
  go_enter Tryz.func7, Tryz.ntmps7
  go_wp2_with (first | (go_at_call 14; refine HF.mono ?_; rintro e w1 ⟨rfl, rfl⟩) | (go_at_call 18; refine HV.mono ?_; rintro e w1 ⟨rfl, rfl⟩))
  go_ret
  exact ⟨rfl, rfl⟩
theorem candB_at : ∀ i, i < 28 → candB.getD i ⟨#[]⟩ = ⟨(candL.getD i []).toArray⟩ := by decide
theorem cand_sk : ∀ i, i < 28 → (candB.getD i ⟨#[]⟩).size ≤ 64 ∧ (skelR (candB.getD i ⟨#[]⟩)).isRight = true := by decide +kernel
theorem cand_fine (i : Nat) (h : i < 28) : ∃ l, SkFine (candB.getD i ⟨#[]⟩) l := by
  obtain ⟨h1, h2⟩ := cand_sk i h
  cases hR : skelR (candB.getD i ⟨#[]⟩) with
  | inl j => rw [hR] at h2; cases h2
  | inr l => exact ⟨l, h1, hR⟩
/-- both tell the same style, or none -/
def Both (s : ByteArray) (k : Bool) : Prop :=
  (∃ kd ln sk, (∀ w, Spc w → Calls Tryz.prog 5 #[.string s, .bool k] w fun e w' => e = .returned (okS kd ln sk) ∧ Below w.heap.size w w') ∧
    (∀ w, Calls Tryz.prog 6 #[.string s, .bool k] w fun e w' => e = .returned (okR kd ln sk) ∧ Below w.heap.size w w')) ∨
  ((∀ w, Spc w → Calls Tryz.prog 5 #[.string s, .bool k] w fun e w' => e = .returned noS ∧ Below w.heap.size w w') ∧
    (∀ w, Calls Tryz.prog 6 #[.string s, .bool k] w fun e w' => e = .returned noR ∧ Below w.heap.size w w'))
theorem both_bad : skelR bothT = .inl 0 := by rfl
theorem both_any (s : ByteArray) (k : Bool) (hz : s.size ≤ 281474976710656) : Both s k := by
  by_cases h0 : s.size = 0
  · have e0 : s = ⟨#[]⟩ := by
      apply ByteArray.ext
      exact Array.eq_empty_of_size_eq_zero h0
    subst e0
    exact Or.inl ⟨kindT k, medium, ⟨#[]⟩, fun w hg => style_empty k w hg, fun w => rstyle_empty k w⟩
  have hs : s.toList.isEmpty = false := by rw [isE]; exact decide_eq_false h0
  cases hp : preB s with
  | true =>
    obtain ⟨r, rfl⟩ := pre_yes hp
    have hrz : r.size ≤ 281474976710656 := by rw [ByteArray.size_append] at hz; omega
    cases hl : lenB r with
    | true => exact Or.inl ⟨3, r, ⟨#[]⟩, fun w hg => style_both k r hl w hg, fun w => rstyle_both k r hl hrz w⟩
    | false =>
      refine Or.inr ⟨fun w hg => style_bothno k r hl w hg, fun w => ?_⟩
      by_cases hr : 0 < r.size
      · exact rstyle_bothno k r hl hr hrz w
      · have e1 : bothT ++ r = bothT := by
          have : r = ⟨#[]⟩ := by
            apply ByteArray.ext
            exact Array.eq_empty_of_size_eq_zero (by show r.size = 0; omega)
          rw [this, ba_nil]
        rw [e1]
        exact rstyle_sknos k bothT (by decide) 272 0 (Or.inl ⟨by decide, 0, both_bad, rfl, rfl⟩) (by rw [isE]; rfl) rfl (by decide) w
  | false =>
    cases hl : lenB s with
    | true => exact Or.inl ⟨kindT k, s, ⟨#[]⟩, fun w hg => style_len k s hs hp hl w hg, fun w => rstyle_len k s hs hl w⟩
    | false =>
      have q5 : ((s.extract 0 5).toList == [98, 111, 116, 104, 47]) = false := beq_eq_false_iff_ne.2 (first_pre hp)
      rcases sk_or s with ⟨l, hf⟩ | ⟨a, b, hf⟩
      · refine Or.inl ⟨0, ⟨#[]⟩, formT l, fun w hg => style_sk k s hz l hf hs hp hl w hg, fun w => ?_⟩
        by_cases c5 : 5 < (s.size : Int)
        · exact rstyle_sk k s hz l hf hs hl c5 q5 w
        · exact rstyle_sks k s hz l hf hs hl c5 w
      · refine Or.inr ⟨fun w hg => style_skno k s hz a b hf hs hp hl w hg, fun w => ?_⟩
        by_cases c5 : 5 < (s.size : Int)
        · exact rstyle_skno k s hz a b hf hs hl c5 q5 w
        · exact rstyle_sknos k s hz a b hf hs hl c5 w
end Go.Proofs.YtdkekhaamhphcaaGreatDoor
