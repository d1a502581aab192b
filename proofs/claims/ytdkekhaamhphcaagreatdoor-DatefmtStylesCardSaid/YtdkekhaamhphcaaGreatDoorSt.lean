/-
  The layer's Style and the reference's: the same style for every text, or none. Conditions: the table of blanks holds; the text is short enough to be in memory.
-/
import Derived.Test.YtdkekhaamhphcaaGreatDoorPr
import Derived.Test.YtdkekhaamhphcaaGreatDoorShelf
set_option linter.unusedVariables false
set_option linter.unusedSimpArgs false
namespace Go.Proofs.YtdkekhaamhphcaaGreatDoor
open Go.RowKit
def okS (k : Int) (l sk : ByteArray) : Value := .tuple #[.agg #[.int .i64 k, .string l, .string sk], .int .i64 0]
def noS : Value := .tuple #[.agg #[.int .i64 0, .string ⟨#[]⟩, .string ⟨#[]⟩], .int .i64 2]
def okR (k : Int) (l sk : ByteArray) : Value := .tuple #[.agg #[.int .i64 k, .string l, .string sk], .bool true]
def noR : Value := .tuple #[.agg #[.int .i64 0, .string ⟨#[]⟩, .string ⟨#[]⟩], .bool false]
def kindT (t : Bool) : Int := if t then 2 else 1
def full : ByteArray := ⟨#[102, 117, 108, 108]⟩
def long : ByteArray := ⟨#[108, 111, 110, 103]⟩
def medium : ByteArray := ⟨#[109, 101, 100, 105, 117, 109]⟩
def short : ByteArray := ⟨#[115, 104, 111, 114, 116]⟩
def lens : List ByteArray := [full, long, medium, short]
def lenB (s : ByteArray) : Bool := Lib.containsS lens s
def lensT : ByteArray := ⟨#[102, 117, 108, 108, 32, 108, 111, 110, 103, 32, 109, 101, 100, 105, 117, 109, 32, 115, 104, 111, 114, 116]⟩
def Spc (w : World) : Prop := Lib.TabIs Tryz.prog w "strings.asciiSpace" .u8 Lib.asciiSpaceTab
theorem fields_lens : (Lib.fields lensT.data.toList).map (fun l => Value.string ⟨l.toArray⟩) = lens.map Value.string := by rfl
theorem fields_len : (Lib.fields lensT.data.toList).length = 4 := by rfl
theorem lens_fields (w : World) (hg : Spc w) : Calls Tryz.prog 14 #[.string lensT] w fun e w' => e = .returned (.slice (some ⟨w.heap.size, 0, none⟩) 4 4) ∧ w' = w.alloc (.cells (lens.map Value.string).toArray 9) := by
  have h := Tryz.strings_Fields_laid lensT w (by decide) (by
    intro j b hb
    have : ∀ b ∈ lensT.data.toList, b.toNat < 128 := by decide
    exact this b (List.mem_of_getElem? hb)) hg
  rw [fields_lens, fields_len] at h
  exact h
theorem lens_cells (w : World) (j : Nat) (hj : j < lens.length) : (w.alloc (.cells (lens.map Value.string).toArray 9)).cell? ⟨w.heap.size, 0 + j, none⟩ = some (.string (lens.getD j ByteArray.empty)) := by
  rw [Nat.zero_add, (Blk.new w 9 (lens.map Value.string).toArray).cell j]
  have : j < 4 := hj
  match j, this with
  | 0, _ => rfl
  | 1, _ => rfl
  | 2, _ => rfl
  | 3, _ => rfl
theorem lens_contains (x : ByteArray) (w : World) : Calls Tryz.prog 13 #[.slice (some ⟨w.heap.size, 0, none⟩) 4 4, .string x] (w.alloc (.cells (lens.map Value.string).toArray 9)) fun e w' => e = .returned (.bool (lenB x)) ∧ w' = w.alloc (.cells (lens.map Value.string).toArray 9) :=
  Tryz.slices_Contains_string w.heap.size 0 4 4 lens x _ (by decide) (by decide) (lens_cells w)
theorem gSpc : Tryz.prog.globalNamed "strings.asciiSpace" = some 0 := by kernel_rfl
theorem tab_below {n : String} {g : Nat} {k : IntKind} {zs : List Int} {w w' : World} (hg : Tryz.prog.globalNamed n = some g) (h : Lib.TabIs Tryz.prog w n k zs) (hb : Below w.heap.size w w') : Lib.TabIs Tryz.prog w' n k zs := by
  unfold Lib.TabIs World.var? at h ⊢
  rw [hg] at h ⊢
  simp only [Option.bind_some] at h ⊢
  have hlt : g < w.heap.size := by
    rcases Nat.lt_or_ge g w.heap.size with h' | h'
    · exact h'
    · rw [Array.getElem?_eq_none h'] at h; cases h
  rw [hb.block g hlt]
  exact h
theorem Spc.below {w w' : World} (h : Spc w) (hb : Below w.heap.size w w') : Spc w' := tab_below gSpc h hb
theorem Spc.alloc {w : World} (h : Spc w) (o : Obj) : Spc (w.alloc o) := h.below ((Below.refl _ _).alloc (Nat.le_refl _) o)
def bothT : ByteArray := ⟨#[98, 111, 116, 104, 47]⟩
def preB (s : ByteArray) : Bool := Lib.hasPrefix s.data.toList bothT.data.toList
theorem cut_no (s : ByteArray) (h : preB s = false) (w : World) : Calls Tryz.prog 12 #[.string s, .string bothT] w fun e w' => e = .returned (.tuple #[.string s, .bool false]) ∧ w' = w := by
  have hc := Tryz.strings_CutPrefix s bothT w
  unfold preB at h
  rw [show Lib.trimPrefix s.data.toList bothT.data.toList = s.data.toList by unfold Lib.trimPrefix; rw [h]; rfl, h] at hc
  exact hc
theorem pre_yes {s : ByteArray} (h : preB s = true) : ∃ r : ByteArray, s = bothT ++ r := by
  unfold preB Lib.hasPrefix at h
  obtain ⟨r, hr⟩ := List.isPrefixOf_iff_prefix.1 h
  refine ⟨⟨r.toArray⟩, ?_⟩
  apply ByteArray.ext
  rw [ByteArray.data_append, ← Array.toList_inj, ← hr]
  simp
theorem pre_cat (r : ByteArray) : preB (bothT ++ r) = true := by
  unfold preB Lib.hasPrefix
  rw [List.isPrefixOf_iff_prefix]
  exact ⟨r.data.toList, by simp [ByteArray.data_append]⟩
theorem cut_yes (r : ByteArray) (w : World) : Calls Tryz.prog 12 #[.string (bothT ++ r), .string bothT] w fun e w' => e = .returned (.tuple #[.string r, .bool true]) ∧ w' = w := by
  have hc := Tryz.strings_CutPrefix (bothT ++ r) bothT w
  have h : Lib.hasPrefix (bothT ++ r).data.toList bothT.data.toList = true := pre_cat r
  rw [show Lib.trimPrefix (bothT ++ r).data.toList bothT.data.toList = r.data.toList by unfold Lib.trimPrefix; rw [h, if_pos rfl]; simp [ByteArray.data_append, bothT], h] at hc
  exact hc
end Go.Proofs.YtdkekhaamhphcaaGreatDoor
