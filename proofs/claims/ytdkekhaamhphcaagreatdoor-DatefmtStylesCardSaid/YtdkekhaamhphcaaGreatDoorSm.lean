/-
  The layer's Style and the reference's, case by case. Conditions: those of each case; the table of blanks holds.
-/
import Derived.Test.YtdkekhaamhphcaaGreatDoorSl
set_option linter.unusedVariables false
set_option linter.unusedSimpArgs false
namespace Go.Proofs.YtdkekhaamhphcaaGreatDoor
open Go.RowKit
theorem isE (s : ByteArray) : s.toList.isEmpty = decide (s.size = 0) := by
  rw [Go.Lib.toList_data, Go.Lib.size_eq]
  cases s.data.toList <;> simp
theorem drewB {w : World} {g : Nat} {t : TypeId} {cs : Array Value} (h : Blk w g t cs) : Blk w g t cs := h
set_option maxRecDepth 100000 in
set_option maxHeartbeats 4000000 in
theorem style_empty (k : Bool)  (w : World) (hg : Spc w) :
    Calls Tryz.prog 5 #[.string ⟨#[]⟩, .bool k] w fun e w' => e = .returned (okS (kindT k) medium ⟨#[]⟩) ∧ Below w.heap.size w w' := by
  have HP := cut_no medium rfl
  have hl : lenB medium = true := rfl
  have HF := lens_fields (w.alloc (.cells #[.int .i64 0, .string ⟨#[]⟩, .string ⟨#[]⟩] 24)) (hg.alloc _)
  have HC := lens_contains medium (w.alloc (.cells #[.int .i64 0, .string ⟨#[]⟩, .string ⟨#[]⟩] 24))
  rw [hl] at HC
  simp only [World.size_alloc] at HF HC
  clear hg
  have P2 := ((Blk.new w 24 #[.int .i64 (kindT k), .string medium, .string ⟨#[]⟩]).alloc (.cells (lens.map Value.string).toArray 9))
  have B2 := (((Below.refl w.heap.size w).alloc (Nat.le_refl _) (.cells #[.int .i64 (kindT k), .string medium, .string ⟨#[]⟩] 24)).alloc (by simp) (.cells (lens.map Value.string).toArray 9))
  unfold bothT lensT at *
  generalize (Obj.cells (lens.map Value.string).toArray 9) = ob at *
  have q0 := P2.at_ 0 rfl
  have q1 := P2.at_ 1 rfl
  have q2 := P2.at_ 2 rfl
  cases k <;> try simp only [kindT, Bool.false_eq_true, if_true, if_false] at B2 q0 q1 q2
  all_goals
    go_enter Tryz.func5, Tryz.ntmps5
    go_wp2_with (first | (go_at_call 12; refine (HP _).mono ?_; rintro e w1 ⟨rfl, rfl⟩) | (go_at_call 14; refine HF.mono ?_; rintro e w2 ⟨rfl, rfl⟩) | (go_at_call 13; refine HC.mono ?_; rintro e w3 ⟨rfl, rfl⟩))
    refine bodyPost_ret (v := okS (kindT _) medium ⟨#[]⟩) ?_ rfl ⟨rfl, B2⟩
    simp [okS, noS, kindT, medium, results, Tryz.results5, go_sem, q0, q1, q2]
set_option maxRecDepth 100000 in
set_option maxHeartbeats 4000000 in
theorem style_both (k : Bool) (r : ByteArray) (hl : lenB r = true) (w : World) (hg : Spc w) :
    Calls Tryz.prog 5 #[.string (bothT ++ r), .bool k] w fun e w' => e = .returned (okS 3 r ⟨#[]⟩) ∧ Below w.heap.size w w' := by
  have HP := cut_yes r
  have hs : (bothT ++ r).toList.isEmpty = false := by rw [isE, ByteArray.size_append]; exact decide_eq_false (by show ¬ 5 + r.size = 0; omega)
  have HF := lens_fields (w.alloc (.cells #[.int .i64 0, .string ⟨#[]⟩, .string ⟨#[]⟩] 24)) (hg.alloc _)
  have HC := lens_contains r (w.alloc (.cells #[.int .i64 0, .string ⟨#[]⟩, .string ⟨#[]⟩] 24))
  rw [hl] at HC
  simp only [World.size_alloc] at HF HC
  have HF2 := lens_fields ((w.alloc (.cells #[.int .i64 0, .string ⟨#[]⟩, .string ⟨#[]⟩] 24)).alloc (.cells (lens.map Value.string).toArray 9)) ((hg.alloc _).alloc _)
  have HC2 := lens_contains r ((w.alloc (.cells #[.int .i64 0, .string ⟨#[]⟩, .string ⟨#[]⟩] 24)).alloc (.cells (lens.map Value.string).toArray 9))
  rw [hl] at HC2
  simp only [World.size_alloc] at HF2 HC2
  clear hg
  have P2 := ((Blk.new w 24 #[.int .i64 3, .string r, .string ⟨#[]⟩]).alloc (.cells (lens.map Value.string).toArray 9)).alloc (.cells (lens.map Value.string).toArray 9)
  have B2 := (((Below.refl w.heap.size w).alloc (Nat.le_refl _) (.cells #[.int .i64 3, .string r, .string ⟨#[]⟩] 24)).alloc (by simp) (.cells (lens.map Value.string).toArray 9)).alloc (by simp; omega) (.cells (lens.map Value.string).toArray 9)
  unfold bothT lensT at *
  generalize (Obj.cells (lens.map Value.string).toArray 9) = ob at *
  have q0 := P2.at_ 0 rfl
  have q1 := P2.at_ 1 rfl
  have q2 := P2.at_ 2 rfl
  cases k <;> try simp only [kindT, Bool.false_eq_true, if_true, if_false] at B2 q0 q1 q2
  all_goals
    go_enter Tryz.func5, Tryz.ntmps5
    go_wp2_with (first | (go_at_call 12; refine (HP _).mono ?_; rintro e w1 ⟨rfl, rfl⟩) | (go_at_call 14; refine HF.mono ?_; rintro e w2 ⟨rfl, rfl⟩) | (go_at_call 13; refine HC.mono ?_; rintro e w3 ⟨rfl, rfl⟩) | (go_at_call 14; refine HF2.mono ?_; rintro e w4 ⟨rfl, rfl⟩) | (go_at_call 13; refine HC2.mono ?_; rintro e w5 ⟨rfl, rfl⟩))
    refine bodyPost_ret (v := okS 3 r ⟨#[]⟩) ?_ rfl ⟨rfl, B2⟩
    simp [okS, noS, kindT, medium, results, Tryz.results5, go_sem, q0, q1, q2]
set_option maxRecDepth 100000 in
set_option maxHeartbeats 4000000 in
theorem style_bothno (k : Bool) (r : ByteArray) (hl : lenB r = false) (w : World) (hg : Spc w) :
    Calls Tryz.prog 5 #[.string (bothT ++ r), .bool k] w fun e w' => e = .returned (noS) ∧ Below w.heap.size w w' := by
  have HP := cut_yes r
  have hs : (bothT ++ r).toList.isEmpty = false := by rw [isE, ByteArray.size_append]; exact decide_eq_false (by show ¬ 5 + r.size = 0; omega)
  have HF := lens_fields (w.alloc (.cells #[.int .i64 0, .string ⟨#[]⟩, .string ⟨#[]⟩] 24)) (hg.alloc _)
  have HC := lens_contains r (w.alloc (.cells #[.int .i64 0, .string ⟨#[]⟩, .string ⟨#[]⟩] 24))
  rw [hl] at HC
  simp only [World.size_alloc] at HF HC
  clear hg
  have P2 := ((Blk.new w 24 #[.int .i64 0, .string ⟨#[]⟩, .string ⟨#[]⟩]).alloc (.cells (lens.map Value.string).toArray 9))
  have B2 := (((Below.refl w.heap.size w).alloc (Nat.le_refl _) (.cells #[.int .i64 0, .string ⟨#[]⟩, .string ⟨#[]⟩] 24)).alloc (by simp) (.cells (lens.map Value.string).toArray 9))
  unfold bothT lensT at *
  generalize (Obj.cells (lens.map Value.string).toArray 9) = ob at *
  have q0 := P2.at_ 0 rfl
  have q1 := P2.at_ 1 rfl
  have q2 := P2.at_ 2 rfl
  cases k <;> try simp only [kindT, Bool.false_eq_true, if_true, if_false] at B2 q0 q1 q2
  all_goals
    go_enter Tryz.func5, Tryz.ntmps5
    go_wp2_with (first | (go_at_call 12; refine (HP _).mono ?_; rintro e w1 ⟨rfl, rfl⟩) | (go_at_call 14; refine HF.mono ?_; rintro e w2 ⟨rfl, rfl⟩) | (go_at_call 13; refine HC.mono ?_; rintro e w3 ⟨rfl, rfl⟩))
    refine bodyPost_ret (v := noS) ?_ rfl ⟨rfl, B2⟩
    simp [okS, noS, kindT, medium, results, Tryz.results5, go_sem, q0, q1, q2]
set_option maxRecDepth 100000 in
set_option maxHeartbeats 4000000 in
theorem style_len (k : Bool) (s : ByteArray) (hs : s.toList.isEmpty = false) (hp : preB s = false) (hl : lenB s = true) (w : World) (hg : Spc w) :
    Calls Tryz.prog 5 #[.string s, .bool k] w fun e w' => e = .returned (okS (kindT k) s ⟨#[]⟩) ∧ Below w.heap.size w w' := by
  have HP := cut_no s hp
  have HF := lens_fields (w.alloc (.cells #[.int .i64 0, .string ⟨#[]⟩, .string ⟨#[]⟩] 24)) (hg.alloc _)
  have HC := lens_contains s (w.alloc (.cells #[.int .i64 0, .string ⟨#[]⟩, .string ⟨#[]⟩] 24))
  rw [hl] at HC
  simp only [World.size_alloc] at HF HC
  clear hg
  have P2 := ((Blk.new w 24 #[.int .i64 (kindT k), .string s, .string ⟨#[]⟩]).alloc (.cells (lens.map Value.string).toArray 9))
  have B2 := (((Below.refl w.heap.size w).alloc (Nat.le_refl _) (.cells #[.int .i64 (kindT k), .string s, .string ⟨#[]⟩] 24)).alloc (by simp) (.cells (lens.map Value.string).toArray 9))
  unfold bothT lensT at *
  generalize (Obj.cells (lens.map Value.string).toArray 9) = ob at *
  have q0 := P2.at_ 0 rfl
  have q1 := P2.at_ 1 rfl
  have q2 := P2.at_ 2 rfl
  cases k <;> try simp only [kindT, Bool.false_eq_true, if_true, if_false] at B2 q0 q1 q2
  all_goals
    go_enter Tryz.func5, Tryz.ntmps5
    go_wp2_with (first | (go_at_call 12; refine (HP _).mono ?_; rintro e w1 ⟨rfl, rfl⟩) | (go_at_call 14; refine HF.mono ?_; rintro e w2 ⟨rfl, rfl⟩) | (go_at_call 13; refine HC.mono ?_; rintro e w3 ⟨rfl, rfl⟩))
    refine bodyPost_ret (v := okS (kindT _) s ⟨#[]⟩) ?_ rfl ⟨rfl, B2⟩
    simp [okS, noS, kindT, medium, results, Tryz.results5, go_sem, q0, q1, q2]
set_option maxRecDepth 100000 in
set_option maxHeartbeats 4000000 in
theorem style_sk (k : Bool) (s : ByteArray) (hz : s.size ≤ 281474976710656) (l : List Fd) (hf : SkFine s l) (hs : s.toList.isEmpty = false) (hp : preB s = false) (hl : lenB s = false) (w : World) (hg : Spc w) :
    Calls Tryz.prog 5 #[.string s, .bool k] w fun e w' => e = .returned (okS 0 ⟨#[]⟩ (formT l)) ∧ Below w.heap.size w w' := by
  have HP := cut_no s hp
  have HS := Skeleton_yes s hz l hf
  unfold sp at HS
  have HF := lens_fields (w.alloc (.cells #[.int .i64 0, .string ⟨#[]⟩, .string ⟨#[]⟩] 24)) (hg.alloc _)
  have HC := lens_contains s (w.alloc (.cells #[.int .i64 0, .string ⟨#[]⟩, .string ⟨#[]⟩] 24))
  rw [hl] at HC
  simp only [World.size_alloc] at HF HC
  clear hg
  have P2 := (Blk.new w 24 #[.int .i64 0, .string ⟨#[]⟩, .string ⟨#[]⟩]).alloc (.cells (lens.map Value.string).toArray 9)
  have B2 := ((Below.refl w.heap.size w).alloc (Nat.le_refl _) (.cells #[.int .i64 0, .string ⟨#[]⟩, .string ⟨#[]⟩] 24)).alloc (by simp) (.cells (lens.map Value.string).toArray 9)
  unfold bothT lensT at *
  generalize (Obj.cells (lens.map Value.string).toArray 9) = ob at *
  cases k
  all_goals
    go_enter Tryz.func5, Tryz.ntmps5
    go_wp2_with (first | (go_at_call 12; refine (HP _).mono ?_; rintro e w1 ⟨rfl, rfl⟩) | (go_at_call 14; refine HF.mono ?_; rintro e w2 ⟨rfl, rfl⟩) | (go_at_call 13; refine HC.mono ?_; rintro e w3 ⟨rfl, rfl⟩) | (go_at_call 15; refine (HS _).mono ?_; rintro e w4 ⟨rfl, hb4⟩; have P3 := P2.below hb4 P2.lt; have B3 := B2.trans (hb4.mono B2.size); have P4 := P3.alloc (.cells #[.int .i64 0, .int .i64 0] 35); have B4 := B3.alloc B3.size (.cells #[.int .i64 0, .int .i64 0] 35); have p0 := P4.at_ 0 (v := .int .i64 0) rfl; have p1 := P4.at_ 1 (v := .string ⟨#[]⟩) rfl; have p2 := P4.at_ 2 (v := .string ⟨#[]⟩) rfl; have f0 := P4.frozen; have P5 := ((P4.set_ 0 (.int .i64 0)).set_ 1 (.string ⟨#[]⟩)).set_ 2 (.string (formT l)); have B5 := ((B4.setCell (p := ⟨w.heap.size, 0, none⟩) (Nat.le_refl _) (.int .i64 0)).setCell (p := ⟨w.heap.size, 1, none⟩) (Nat.le_refl _) (.string ⟨#[]⟩)).setCell (p := ⟨w.heap.size, 2, none⟩) (Nat.le_refl _) (.string (formT l))))
    clear p0 p1 p2 f0 P4 P3 B4 B3
    generalize World.setCell _ ⟨w.heap.size, 2, none⟩ _ = w9 at *
    have q0 := P5.at_ 0 rfl
    have q1 := P5.at_ 1 rfl
    have q2 := P5.at_ 2 rfl
    refine bodyPost_ret (v := okS 0 ⟨#[]⟩ (formT l)) ?_ rfl ⟨rfl, B5⟩
    simp [okS, noS, kindT, medium, results, Tryz.results5, go_sem, q0, q1, q2]
set_option maxRecDepth 100000 in
set_option maxHeartbeats 4000000 in
theorem style_skno (k : Bool) (s : ByteArray) (hz : s.size ≤ 281474976710656) (a b : Int) (hf : SkWrong s a b) (hs : s.toList.isEmpty = false) (hp : preB s = false) (hl : lenB s = false) (w : World) (hg : Spc w) :
    Calls Tryz.prog 5 #[.string s, .bool k] w fun e w' => e = .returned (noS) ∧ Below w.heap.size w w' := by
  have HP := cut_no s hp
  have HS := Skeleton_wrong s hz a b hf
  have hne := hf.ne
  unfold sp at HS
  have HF := lens_fields (w.alloc (.cells #[.int .i64 0, .string ⟨#[]⟩, .string ⟨#[]⟩] 24)) (hg.alloc _)
  have HC := lens_contains s (w.alloc (.cells #[.int .i64 0, .string ⟨#[]⟩, .string ⟨#[]⟩] 24))
  rw [hl] at HC
  simp only [World.size_alloc] at HF HC
  clear hg
  have P2 := (Blk.new w 24 #[.int .i64 0, .string ⟨#[]⟩, .string ⟨#[]⟩]).alloc (.cells (lens.map Value.string).toArray 9)
  have B2 := ((Below.refl w.heap.size w).alloc (Nat.le_refl _) (.cells #[.int .i64 0, .string ⟨#[]⟩, .string ⟨#[]⟩] 24)).alloc (by simp) (.cells (lens.map Value.string).toArray 9)
  unfold bothT lensT at *
  generalize (Obj.cells (lens.map Value.string).toArray 9) = ob at *
  cases k
  all_goals
    go_enter Tryz.func5, Tryz.ntmps5
    go_wp2_with (first | (go_at_call 12; refine (HP _).mono ?_; rintro e w1 ⟨rfl, rfl⟩) | (go_at_call 14; refine HF.mono ?_; rintro e w2 ⟨rfl, rfl⟩) | (go_at_call 13; refine HC.mono ?_; rintro e w3 ⟨rfl, rfl⟩) | (go_at_call 15; refine (HS _).mono ?_; rintro e w4 ⟨rfl, hb4⟩; have P3 := P2.below hb4 P2.lt; have B3 := B2.trans (hb4.mono B2.size); have P4 := P3.alloc (.cells #[.int .i64 a, .int .i64 b] 35); have B4 := B3.alloc B3.size (.cells #[.int .i64 a, .int .i64 b] 35); have p0 := P4.at_ 0 (v := .int .i64 0) rfl; have p1 := P4.at_ 1 (v := .string ⟨#[]⟩) rfl; have p2 := P4.at_ 2 (v := .string ⟨#[]⟩) rfl; have f0 := P4.frozen; have P5 := ((P4.set_ 0 (.int .i64 0)).set_ 1 (.string ⟨#[]⟩)).set_ 2 (.string ⟨#[]⟩); have B5 := ((B4.setCell (p := ⟨w.heap.size, 0, none⟩) (Nat.le_refl _) (.int .i64 0)).setCell (p := ⟨w.heap.size, 1, none⟩) (Nat.le_refl _) (.string ⟨#[]⟩)).setCell (p := ⟨w.heap.size, 2, none⟩) (Nat.le_refl _) (.string ⟨#[]⟩)))
    clear p0 p1 p2 f0 P4 P3 B4 B3
    generalize World.setCell _ ⟨w.heap.size, 2, none⟩ _ = w9 at *
    have q0 := P5.at_ 0 rfl
    have q1 := P5.at_ 1 rfl
    have q2 := P5.at_ 2 rfl
    refine bodyPost_ret (v := noS) ?_ rfl ⟨rfl, B5⟩
    simp [okS, noS, kindT, medium, results, Tryz.results5, go_sem, q0, q1, q2]
end Go.Proofs.YtdkekhaamhphcaaGreatDoor
