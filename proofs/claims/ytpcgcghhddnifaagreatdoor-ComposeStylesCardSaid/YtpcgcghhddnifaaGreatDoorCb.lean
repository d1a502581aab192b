/-
  Contracts of strings.Cut at a stroke, of rightUnit, UnitStyle, RelativeStyle, ListStyle and of their like in the reference. Condition: the text is short enough to be in memory.
-/
import Derived.Test.YtpcgcghhddnifaaGreatDoorCa
import Derived.Test.YtpcgcghhddnifaaGreatDoorShelf
import Derived.Deep.QuietTactic
import Derived.BigQuiet
set_option linter.unusedVariables false
namespace Go.Proofs.YtpcgcghhddnifaaGreatDoor
open Go.RowKit
theorem blw_drewN {B : Nat} {a w : World} (h : Below B a w) (k : Nat) : Below B a (w.drewN k) := ⟨h.os, h.tape, h.output, h.size, h.block⟩
/-- where the stroke stands -/
def strI (s : ByteArray) : Int := Lib.indexByte s.data.toList 47
def cutF (s : ByteArray) : Bool := decide (0 ≤ strI s)
def cutB (s : ByteArray) : ByteArray := if cutF s then s.extract 0 (strI s).toNat else s
def cutA (s : ByteArray) : ByteArray := if cutF s then s.extract ((strI s).toNat + 1) s.size else ⟨#[]⟩
theorem cutB_size (s : ByteArray) : (cutB s).size ≤ s.size := by
  unfold cutB
  split
  · simp; omega
  · exact Nat.le_refl _
theorem cutA_size (s : ByteArray) : (cutA s).size ≤ s.size := by
  unfold cutA
  split
  · simp
  · exact Nat.zero_le _
theorem cut_no (s : ByteArray) (h : Lib.indexByte s.data.toList 47 = -1) (w : World) : Calls Tryz.prog 41 #[.string s, .string ⟨#[47]⟩] w fun e w' => e = .returned (.tuple #[.string s, .string ⟨#[]⟩, .bool false]) ∧ Below w.heap.size w w' := by
  have HI := Tryz.stringslite_Index_one s 47
  rw [h] at HI
  have H22 : ∀ w : World, Calls Tryz.prog 72 #[.string s, .string ⟨#[47]⟩] w fun e w' => e = .returned (.tuple #[.string s, .string ⟨#[]⟩, .bool false]) ∧ Below w.heap.size w w' := fun w => by
    go_enter Tryz.func72, Tryz.ntmps72
    go_wp2_with fail
    refine (HI _).mono ?_
    rintro e w1 ⟨rfl, rfl⟩
    go_wp2_with fail
    refine bodyPost_ret (v := .tuple #[.string s, .string ⟨#[]⟩, .bool false]) ?_ rfl ⟨rfl, Below.refl _ _⟩
    simp [results, Tryz.results72, go_sem]
  clear HI
  go_enter Tryz.func41, Tryz.ntmps41
  go_wp2_with fail
  refine (H22 _).mono ?_
  rintro e w1 ⟨rfl, hb⟩
  go_wp2_with fail
  refine bodyPost_ret (v := .tuple #[.string s, .string ⟨#[]⟩, .bool false]) ?_ rfl ⟨rfl, hb⟩
  simp [results, Tryz.results41, go_sem]
theorem cut_yes (s : ByteArray) (i : Nat) (h : Lib.indexByte s.data.toList 47 = (i : Int)) (hi : i < s.size) (hs : s.size ≤ 281474976710656) (w : World) : Calls Tryz.prog 41 #[.string s, .string ⟨#[47]⟩] w fun e w' => e = .returned (.tuple #[.string (s.extract 0 i), .string (s.extract (i + 1) s.size), .bool true]) ∧ Below w.heap.size w w' := by
  have HI := Tryz.stringslite_Index_one s 47
  rw [h] at HI
  have g0 : (0 : Int) ≤ (i : Int) := by omega
  have r1 : wrap64 ((i : Int) + 1) = (i : Int) + 1 := by simp only [wrap64]; omega
  have H22 : ∀ w : World, Calls Tryz.prog 72 #[.string s, .string ⟨#[47]⟩] w fun e w' => e = .returned (.tuple #[.string (s.extract 0 i), .string (s.extract (i + 1) s.size), .bool true]) ∧ Below w.heap.size w w' := fun w => by
    go_enter Tryz.func72, Tryz.ntmps72
    go_wp2_with fail
    refine (HI _).mono ?_
    rintro e w1 ⟨rfl, rfl⟩
    go_wp2_with fail
    go_quiet (fail)
    go_wp2_with fail
    refine bodyPost_ret (v := .tuple #[.string (s.extract 0 i), .string (s.extract (i + 1) s.size), .bool true]) ?_ rfl ⟨rfl, blw_drewN (Below.refl _ _) _⟩
    simp [results, Tryz.results72, go_sem]
  clear HI h
  go_enter Tryz.func41, Tryz.ntmps41
  go_wp2_with fail
  refine (H22 _).mono ?_
  rintro e w1 ⟨rfl, hb⟩
  go_wp2_with fail
  refine bodyPost_ret (v := .tuple #[.string (s.extract 0 i), .string (s.extract (i + 1) s.size), .bool true]) ?_ rfl ⟨rfl, hb⟩
  simp [results, Tryz.results41, go_sem]
theorem cut_any (s : ByteArray) (hs : s.size ≤ 281474976710656) (w : World) : Calls Tryz.prog 41 #[.string s, .string ⟨#[47]⟩] w fun e w' => e = .returned (.tuple #[.string (cutB s), .string (cutA s), .bool (cutF s)]) ∧ Below w.heap.size w w' := by
  by_cases hi : Lib.indexByte s.data.toList 47 = -1
  · have hf : cutF s = false := by unfold cutF strI; rw [hi]; rfl
    unfold cutB cutA
    rw [hf]
    exact cut_no s hi w
  · have h0 := Lib.indexByte_ge s.data.toList 47
    obtain ⟨i, hi⟩ := Int.eq_ofNat_of_zero_le (show 0 ≤ Lib.indexByte s.data.toList 47 by omega)
    have h1 := (Lib.indexByte_some hi).1
    have hlt : i < s.size := by
      have := (List.getElem?_eq_some_iff.1 h1).1
      simpa using this
    have hf : cutF s = true := by unfold cutF strI; rw [hi]; simp
    have ht : (strI s).toNat = i := by unfold strI; rw [hi]; rfl
    unfold cutB cutA
    rw [hf, ht]
    exact cut_yes s i hi hlt hs w
theorem bcell {B : Nat} {w w1 : World} (h : Below B w w1) : (∀ b o, b < B → w1.cell? ⟨b, o, none⟩ = w.cell? ⟨b, o, none⟩) ∧ ∀ b o, b < B → w1.frozen? ⟨b, o, none⟩ = w.frozen? ⟨b, o, none⟩ := by
  obtain ⟨_, _, _, _, h5⟩ := h
  exact ⟨fun b o hb => by simp [World.cell?, h5 b hb], fun b o hb => by simp [World.frozen?, h5 b hb]⟩
/-- A block of two cells. -/
structure Blk2 (B : Nat) (w : World) (c0 c1 : Value) : Prop where
  lt : B < w.heap.size
  a0 : w.cell? ⟨B, 0, none⟩ = some c0
  a1 : w.cell? ⟨B, 1, none⟩ = some c1
  fz : ∀ o, w.frozen? ⟨B, o, none⟩ = false
theorem Blk2.new (w : World) (c0 c1 : Value) (t : TypeId) : Blk2 w.heap.size (w.alloc (.cells #[c0, c1] t)) c0 c1 := by
  constructor <;> simp
theorem Blk2.belowB {B C : Nat} {w w1 : World} {c0 c1 : Value} (h : Blk2 B w c0 c1) (hC : B < C) (hb : Below C w w1) : Blk2 B w1 c0 c1 := by
  obtain ⟨hc, hf⟩ := bcell hb
  exact ⟨Nat.lt_of_lt_of_le h.lt hb.size, (hc _ _ hC).trans h.a0, (hc _ _ hC).trans h.a1, fun o => (hf _ _ hC).trans (h.fz o)⟩
theorem Blk2.below {B : Nat} {w w1 : World} {c0 c1 : Value} (h : Blk2 B w c0 c1) (hb : Below w.heap.size w w1) : Blk2 B w1 c0 c1 := h.belowB h.lt hb
theorem Blk2.alloc {B : Nat} {w : World} {c0 c1 : Value} (h : Blk2 B w c0 c1) (c : Array Value) (t : TypeId) : Blk2 B (w.alloc (.cells c t)) c0 c1 :=
  h.below ((Below.refl _ _).alloc (Nat.le_refl _) _)
theorem Blk2.put {B : Nat} {w : World} {c0 c1 : Value} (h : Blk2 B w c0 c1) (v0 v1 : Value) : Blk2 B ((w.setCell ⟨B, 0, none⟩ v0).setCell ⟨B, 1, none⟩ v1) v0 v1 := by
  refine ⟨by simpa using h.lt, ?_, ?_, fun o => by rw [World.frozen?_setCell, World.frozen?_setCell]; exact h.fz o⟩
  · rw [World.cell?_setCell_other _ _ _ _ (fun e => by cases e)]
    exact World.cell?_setCell_same _ _ _ h.a0
  · refine World.cell?_setCell_same (u := c1) _ _ _ ?_
    rw [World.cell?_setCell_other _ _ _ _ (fun e => by cases e)]; exact h.a1
theorem put_below {B C : Nat} {a w : World} (h : Below B a w) (hC : B ≤ C) (v0 v1 : Value) : Below B a ((w.setCell ⟨C, 0, none⟩ v0).setCell ⟨C, 1, none⟩ v1) :=
  (h.setCell (p := ⟨C, 0, none⟩) hC _).setCell (p := ⟨C, 1, none⟩) hC _
theorem blw_drew {B : Nat} {a w : World} (h : Below B a w) : Below B a w.drew := ⟨h.os, h.tape, h.output, h.size, h.block⟩
theorem Blk2.drew {B : Nat} {w : World} {c0 c1 : Value} (h : Blk2 B w c0 c1) : Blk2 B w.drew c0 c1 := h.below (blw_drew (Below.refl _ _))
end Go.Proofs.YtpcgcghhddnifaaGreatDoor
