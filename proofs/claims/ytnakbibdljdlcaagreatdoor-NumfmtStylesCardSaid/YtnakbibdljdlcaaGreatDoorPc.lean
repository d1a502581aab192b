/-
  Contract of numfmt.check at a style of a money and at one of so many digits. Condition: the block is known, the text is short enough to be in memory.
-/
import Derived.Test.YtnakbibdljdlcaaGreatDoorPa
set_option linter.unusedVariables false
namespace Go.Proofs.YtnakbibdljdlcaaGreatDoor
open Go.RowKit
theorem bcell {B : Nat} {w w1 : World} (h : Below B w w1) : (∀ b o, b < B → w1.cell? ⟨b, o, none⟩ = w.cell? ⟨b, o, none⟩) ∧ ∀ b o, b < B → w1.frozen? ⟨b, o, none⟩ = w.frozen? ⟨b, o, none⟩ := by
  obtain ⟨_, _, _, _, h5⟩ := h
  exact ⟨fun b o hb => by simp [World.cell?, h5 b hb], fun b o hb => by simp [World.frozen?, h5 b hb]⟩
structure Blk5 (B : Nat) (w : World) (c0 c1 c2 c3 c4 : Value) : Prop where
  lt : B < w.heap.size
  a0 : w.cell? ⟨B, 0, none⟩ = some c0
  a1 : w.cell? ⟨B, 1, none⟩ = some c1
  a2 : w.cell? ⟨B, 2, none⟩ = some c2
  a3 : w.cell? ⟨B, 3, none⟩ = some c3
  a4 : w.cell? ⟨B, 4, none⟩ = some c4
  fz : ∀ o, w.frozen? ⟨B, o, none⟩ = false
theorem Blk5.below {B : Nat} {w w1 : World} {c0 c1 c2 c3 c4 : Value} (h : Blk5 B w c0 c1 c2 c3 c4) (hb : Below w.heap.size w w1) : Blk5 B w1 c0 c1 c2 c3 c4 := by
  obtain ⟨hc, hf⟩ := bcell hb
  exact ⟨Nat.lt_of_lt_of_le h.lt hb.size, (hc _ _ h.lt).trans h.a0, (hc _ _ h.lt).trans h.a1, (hc _ _ h.lt).trans h.a2, (hc _ _ h.lt).trans h.a3, (hc _ _ h.lt).trans h.a4, fun o => (hf _ _ h.lt).trans (h.fz o)⟩
theorem Blk5.set1 {B : Nat} {w : World} {c0 c1 c2 c3 c4 : Value} (h : Blk5 B w c0 c1 c2 c3 c4) (v : Value) : Blk5 B (w.setCell ⟨B, 1, none⟩ v) c0 v c2 c3 c4 := by
  refine ⟨by simpa using h.lt, ?_, World.cell?_setCell_same _ _ _ h.a1, ?_, ?_, ?_, fun o => by rw [World.frozen?_setCell]; exact h.fz o⟩
  · rw [World.cell?_setCell_other _ _ _ _ (fun e => by cases e)]; exact h.a0
  · rw [World.cell?_setCell_other _ _ _ _ (fun e => by cases e)]; exact h.a2
  · rw [World.cell?_setCell_other _ _ _ _ (fun e => by cases e)]; exact h.a3
  · rw [World.cell?_setCell_other _ _ _ _ (fun e => by cases e)]; exact h.a4
set_option maxHeartbeats 4000000 in
set_option maxRecDepth 100000 in
theorem check_cur (b : Nat) (u : ByteArray) (hu : u.size ≤ 281474976710656) (w : World) (hk : Blk5 b w (.int .i64 3) (.string u) (.string ⟨#[]⟩) (.bool false) (.int .i64 0)) (B : Nat) (hB : B ≤ b) (q : Bool) (hq : (decide (u.size = 3) && allB letB (turnS 97 u)) = q) :
    Calls Tryz.prog 11 #[.pointer (some ⟨b, 0, none⟩)] w fun e w' => e = .returned (.bool q) ∧ Blk5 b w' (.int .i64 3) (.string (turnS 97 u)) (.string ⟨#[]⟩) (.bool false) (.int .i64 0) ∧ Below B w w' := by
  have HU := Upper_any u hu
  have hts := turnS_size 97 u
  have HL := Letters_any (turnS 97 u) (by omega)
  generalize turnS 97 u = t at *
  obtain ⟨hlt, a0, a1, a2, a3, a4, hfz⟩ := id hk
  by_cases h3 : u.size = 3
  · have z0 : (t.size : Int) = 3 := by omega
    have hq : allB letB t = q := by simpa [h3] using hq
    rw [hq] at HL
    clear hq h3 hts hu
    go_enter Tryz.func11, Tryz.ntmps11
    go_wp2_with fail
    refine (HU _).mono ?_
    rintro e w1 ⟨rfl, hb1⟩
    have hk1 := (hk.below hb1)
    obtain ⟨klt, _, d1, _, _, _, kfz⟩ := id hk1
    have hk2 := hk1.set1 (.string t)
    have hb2 : Below B w (w1.setCell ⟨b, 1, none⟩ (.string t)) := (hb1.mono (Nat.le_of_lt (Nat.lt_of_le_of_lt hB hlt))).setCell hB _
    have f1 := kfz 1
    clear hk1 hk hb1 a0 a1 a2 a3 a4 hfz
    go_wp2_with fail
    generalize w1.setCell ⟨b, 1, none⟩ (.string t) = w2 at *
    obtain ⟨hlt2, e0, e1, e2, e3, e4, hfz2⟩ := id hk2
    go_wp2_with fail
    refine (HL _).mono ?_
    rintro e w3 ⟨rfl, rfl⟩
    cases q with
    | true =>
      go_wp2_with fail
      go_ret
      exact ⟨rfl, hk2, hb2⟩
    | false =>
      go_wp2_with fail
      go_ret
      exact ⟨rfl, hk2, hb2⟩
  · have z0 : ¬ (t.size : Int) = 3 := by omega
    have z1 : ((t.size : Int) != 3) = true := bne_iff_ne.2 z0
    have hq : false = q := by simpa [h3] using hq
    subst hq
    clear h3 hts hu
    go_enter Tryz.func11, Tryz.ntmps11
    go_wp2_with fail
    refine (HU _).mono ?_
    rintro e w1 ⟨rfl, hb1⟩
    have hk1 := (hk.below hb1)
    obtain ⟨klt, _, d1, _, _, _, kfz⟩ := id hk1
    have hk2 := hk1.set1 (.string t)
    have hb2 : Below B w (w1.setCell ⟨b, 1, none⟩ (.string t)) := (hb1.mono (Nat.le_of_lt (Nat.lt_of_le_of_lt hB hlt))).setCell hB _
    have f1 := kfz 1
    clear hk1 hk hb1 a0 a1 a2 a3 a4 hfz
    go_wp2_with fail
    generalize w1.setCell ⟨b, 1, none⟩ (.string t) = w2 at *
    obtain ⟨hlt2, e0, e1, e2, e3, e4, hfz2⟩ := id hk2
    go_wp2_with fail
    go_ret
    exact ⟨rfl, hk2, hb2⟩
end Go.Proofs.YtnakbibdljdlcaaGreatDoor
