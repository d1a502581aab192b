/-
  compose.part, compose.ListPart. Conditions: the slice reads as what is said; what the listed variables hold; sizes.
-/
import Derived.Test.YtpcgcghhddnifaaGreatDoorGd
import Derived.Laws.EntriesVeiled
set_option linter.unusedVariables false
namespace Go.Proofs.YtpcgcghhddnifaaGreatDoor
open Go.RowKit
open Ph
theorem cell_new (w : World) (v : Value) (t : TypeId) (b : Nat) (hb : b = w.heap.size) : (w.alloc (.cells #[v] t)).cell? ⟨b, 0, none⟩ = some v := by subst hb; simp
theorem frozen_new (w : World) (v : Value) (t : TypeId) (b : Nat) (hb : b = w.heap.size) : (w.alloc (.cells #[v] t)).frozen? ⟨b, 0, none⟩ = false := by subst hb; simp
theorem cell_old (w : World) (o : Obj) (b : Nat) (hb : b < w.heap.size) : (w.alloc o).cell? ⟨b, 0, none⟩ = w.cell? ⟨b, 0, none⟩ :=
  ((Below.refl w.heap.size w).alloc (Nat.le_refl _) o).cell (p := ⟨b, 0, none⟩) hb
set_option maxRecDepth 100000 in
set_option maxHeartbeats 4000000 in
theorem part_any (A : Option Addr) (L : List Sd) (c B : Nat) (loc st nm : ByteArray) (h1 : st.size ≤ 4096) (h2 : nm.size ≤ 4096) (hn : L.length ≤ 281474976710656) (hx : ∀ x ∈ L, x.text.size ≤ 281474976710656) (w : World) (hg : GlobP w) (hL : Saids w B A L) (hB : B ≤ w.heap.size) :
    Calls Tryz.prog 31 #[srcV A L.length c, .string loc, .string st, .string nm] w fun e w' => e = .returned (.string (partT L loc st nm)) ∧ Below w.heap.size w w' := by
  obtain ⟨r, hr⟩ : ∃ r, partT L loc st nm = r := ⟨_, rfl⟩
  rw [hr]
  have hz : (((w.alloc (.cells #[srcV A L.length c] 69)).alloc (.cells #[.string loc] 9)).alloc (.cells #[.string nm] 9)).heap.size = w.heap.size + 1 + 1 + 1 := by simp
  have f3 : ((((w.alloc (.cells #[srcV A L.length c] 69)).alloc (.cells #[.string loc] 9)).alloc (.cells #[.string nm] 9)).alloc (.cells #[.nilFunc] 90)).cell? ⟨w.heap.size + 1 + 1 + 1, 0, none⟩ = some .nilFunc := cell_new _ _ _ _ hz.symm
  have z3 : ((((w.alloc (.cells #[srcV A L.length c] 69)).alloc (.cells #[.string loc] 9)).alloc (.cells #[.string nm] 9)).alloc (.cells #[.nilFunc] 90)).frozen? ⟨w.heap.size + 1 + 1 + 1, 0, none⟩ = false := frozen_new _ _ _ _ hz.symm
  go_enter Tryz.func31, Tryz.ntmps31
  go_wp2_with fail
  clear f3 z3
  have c9 : ((((w.alloc (.cells #[srcV A L.length c] 69)).alloc (.cells #[.string loc] 9)).alloc (.cells #[.string nm] 9)).alloc (.cells #[(.func (.func 51) #[] #[.pointer (some ⟨w.heap.size + 1 + 1, 0, none⟩)])] 90)).cell? ⟨w.heap.size + 1 + 1 + 1, 0, none⟩ = some (.func (.func 51) #[] #[.pointer (some ⟨w.heap.size + 1 + 1, 0, none⟩)]) := cell_new _ _ _ _ hz.symm
  have c7 : ((((w.alloc (.cells #[srcV A L.length c] 69)).alloc (.cells #[.string loc] 9)).alloc (.cells #[.string nm] 9)).alloc (.cells #[(.func (.func 51) #[] #[.pointer (some ⟨w.heap.size + 1 + 1, 0, none⟩)])] 90)).cell? ⟨w.heap.size + 1 + 1, 0, none⟩ = some (.string nm) := by
    rw [cell_old _ _ _ (by simp)]
    exact cell_new _ _ _ _ (by simp)
  have c5 : ((((w.alloc (.cells #[srcV A L.length c] 69)).alloc (.cells #[.string loc] 9)).alloc (.cells #[.string nm] 9)).alloc (.cells #[(.func (.func 51) #[] #[.pointer (some ⟨w.heap.size + 1 + 1, 0, none⟩)])] 90)).cell? ⟨w.heap.size + 1, 0, none⟩ = some (.string loc) := by
    rw [cell_old _ _ _ (by simp <;> omega), cell_old _ _ _ (by simp)]
    exact cell_new _ _ _ _ (by simp)
  have c4 : ((((w.alloc (.cells #[srcV A L.length c] 69)).alloc (.cells #[.string loc] 9)).alloc (.cells #[.string nm] 9)).alloc (.cells #[(.func (.func 51) #[] #[.pointer (some ⟨w.heap.size + 1 + 1, 0, none⟩)])] 90)).cell? ⟨w.heap.size, 0, none⟩ = some (srcV A L.length c) := by
    rw [cell_old _ _ _ (by simp <;> omega), cell_old _ _ _ (by simp <;> omega), cell_old _ _ _ (by simp)]
    exact cell_new _ _ _ _ rfl
  have hs0 : ((((w.alloc (.cells #[srcV A L.length c] 69)).alloc (.cells #[.string loc] 9)).alloc (.cells #[.string nm] 9)).alloc (.cells #[(.func (.func 51) #[] #[.pointer (some ⟨w.heap.size + 1 + 1, 0, none⟩)])] 90)).heap.size = w.heap.size + 1 + 1 + 1 + 1 := by simp
  have hb0 : Below w.heap.size w ((((w.alloc (.cells #[srcV A L.length c] 69)).alloc (.cells #[.string loc] 9)).alloc (.cells #[.string nm] 9)).alloc (.cells #[(.func (.func 51) #[] #[.pointer (some ⟨w.heap.size + 1 + 1, 0, none⟩)])] 90)) := ((((Below.refl _ _).alloc (Nat.le_refl _) _).alloc (by simp) _).alloc (by simp <;> omega) _).alloc (by simp <;> omega) _
  clear hz
  generalize ((((w.alloc (.cells #[srcV A L.length c] 69)).alloc (.cells #[.string loc] 9)).alloc (.cells #[.string nm] 9)).alloc (.cells #[(.func (.func 51) #[] #[.pointer (some ⟨w.heap.size + 1 + 1, 0, none⟩)])] 90)) = w0 at *
  have hg0 := (hg.below hb0 hg.size).below (blw_drew (Below.refl w0.heap.size w0)) (by have := hg.size; omega)
  have hL0 := (hL.below (hb0.mono hB)).below (blw_drew (Below.refl B w0))
  have HAD := at_any (w.heap.size + 1 + 1) st nm h1 h2 w0.drew c7
  have HKD := ask_any A L c B loc (pathT st nm) 2 53 #[.pointer (some ⟨w.heap.size, 0, none⟩), .pointer (some ⟨w.heap.size + 1, 0, none⟩), .pointer (some ⟨w.heap.size + 1 + 1 + 1, 0, none⟩)] (otherT L loc nm) hn hx w0.drew hg0
    (fun w1 hb1 => other_any A L c B loc nm w.heap.size (w.heap.size + 1) (w.heap.size + 1 + 1 + 1) (w.heap.size + 1 + 1) h2 hn hx w1 (hg0.below hb1 (by have := hg.size; have : w0.drew.heap.size = w0.heap.size := rfl; omega))
      (hL0.below (hb1.mono (by have : w0.drew.heap.size = w0.heap.size := rfl; omega))) (Nat.le_trans (show B ≤ w0.drew.heap.size by have : w0.drew.heap.size = w0.heap.size := rfl; omega) hb1.size)
      ((hb1.cell (p := ⟨w.heap.size, 0, none⟩) (by show w.heap.size < w0.heap.size; omega)).trans c4) ((hb1.cell (p := ⟨w.heap.size + 1, 0, none⟩) (by show w.heap.size + 1 < w0.heap.size; omega)).trans c5)
      ((hb1.cell (p := ⟨w.heap.size + 1 + 1 + 1, 0, none⟩) (by show w.heap.size + 1 + 1 + 1 < w0.heap.size; omega)).trans c9) ((hb1.cell (p := ⟨w.heap.size + 1 + 1, 0, none⟩) (by show w.heap.size + 1 + 1 < w0.heap.size; omega)).trans c7))
    (fun w1 => enters53 _ w1) hL0 (by show B ≤ w0.heap.size; omega)
  have hPT : askT L loc (pathT st nm) 2 (otherT L loc nm) = r := hr
  rw [hPT] at HKD
  clear hPT
  have hbd : Below w.heap.size w w0.drew := blw_drew hb0
  have hle : w.heap.size ≤ w0.drew.heap.size := by show w.heap.size ≤ w0.heap.size; omega
  clear hr
  unfold pathT at HKD
  clear hg0 hL0 hg hL hn hx
  have HS0 := Lib.hid hs0
  clear hs0
  go_region_with (first | (go_at_call 51; refine HAD.mono ?_; rintro e w3 ⟨rfl, rfl⟩) | (go_at_call 52; refine HKD.mono ?_; rintro e w4 ⟨rfl, hb4⟩; have B4 := hbd.trans (hb4.mono hle)))
  all_goals go_wp2_with fail
  all_goals
    refine bodyPost_ret (v := .string r) ?_ rfl ⟨rfl, B4⟩
    simp [results, Tryz.results31, go_sem]
end Go.Proofs.YtpcgcghhddnifaaGreatDoor
