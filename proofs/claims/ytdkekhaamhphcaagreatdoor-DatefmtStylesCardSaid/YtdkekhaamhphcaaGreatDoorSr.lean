/-
  The reference's Style, case by case. Conditions: those of each case.
-/
import Derived.Test.YtdkekhaamhphcaaGreatDoorSm
set_option linter.unusedVariables false
set_option linter.unusedSimpArgs false
namespace Go.Proofs.YtdkekhaamhphcaaGreatDoor
open Go.RowKit
theorem lens_pre : ∀ x ∈ lens, preB x = false := by
  intro x hx
  simp only [lens, List.mem_cons, List.not_mem_nil, or_false] at hx
  rcases hx with rfl | rfl | rfl | rfl <;> rfl
theorem pre_len {s : ByteArray} (h : preB s = true) : lenB s = false := by
  cases e : lenB s with
  | false => rfl
  | true =>
    unfold lenB at e
    rw [Lib.containsS_iff] at e
    rw [lens_pre s e] at h
    cases h
theorem len_pos {r : ByteArray} (h : lenB r = true) : 0 < r.size := by
  rcases (lenB_iff r).1 h with rfl | rfl | rfl | rfl <;> decide
theorem both_first (r : ByteArray) : ((bothT ++ r).extract 0 5).toList = [98, 111, 116, 104, 47] := by
  rw [Go.Lib.toList_data]
  rw [ByteArray.data_extract, ByteArray.data_append]
  show ((#[98, 111, 116, 104, 47] ++ r.data).extract 0 5).toList = _
  rw [Array.toList_extract, Array.toList_append]
  rfl
theorem both_rest (r : ByteArray) : (bothT ++ r).extract 5 (5 + r.size) = r := by
  apply ByteArray.ext
  rw [ByteArray.data_extract, ByteArray.data_append, ← Array.toList_inj, Array.toList_extract, Array.toList_append]
  show (List.drop 5 ([98, 111, 116, 104, 47] ++ r.data.toList)).take (5 + r.size - 5) = _
  rw [show List.drop 5 ([98, 111, 116, 104, 47] ++ r.data.toList) = r.data.toList from rfl, Nat.add_sub_cancel_left, List.take_of_length_le (by rw [size_list]; omega)]
theorem first_pre {s : ByteArray} (h : preB s = false) : ¬ (s.extract 0 5).toList = [98, 111, 116, 104, 47] := by
  intro e
  rw [Go.Lib.toList_data] at e
  have h2 : s.data.toList.take 5 = [98, 111, 116, 104, 47] := by
    rw [← e, ByteArray.data_extract, Array.toList_extract]
    simp
  have : preB s = true := by
    unfold preB Lib.hasPrefix
    rw [List.isPrefixOf_iff_prefix]
    exact ⟨s.data.toList.drop 5, by show [98, 111, 116, 104, 47] ++ _ = _; rw [← h2, List.take_append_drop]⟩
  rw [this] at h
  cases h
set_option maxRecDepth 100000 in
set_option maxHeartbeats 4000000 in
theorem rstyle_empty (k : Bool)  (w : World) :
    Calls Tryz.prog 6 #[.string ⟨#[]⟩, .bool k] w fun e w' => e = .returned (okR (kindT k) medium ⟨#[]⟩) ∧ Below w.heap.size w w' := by
  have P2 := Blk.new w 24 #[.int .i64 (kindT k), .string ⟨#[109, 101, 100, 105, 117, 109]⟩, .string ⟨#[]⟩]
  have B2 := (Below.refl w.heap.size w).alloc (Nat.le_refl _) (.cells #[.int .i64 (kindT k), .string ⟨#[109, 101, 100, 105, 117, 109]⟩, .string ⟨#[]⟩] 24)
  have q0 := P2.at_ 0 rfl
  have q1 := P2.at_ 1 rfl
  have q2 := P2.at_ 2 rfl
  cases k <;> try simp only [kindT, Bool.false_eq_true, if_true, if_false] at B2 q0 q1 q2
  all_goals
    go_enter Tryz.func6, Tryz.ntmps6
    go_wp2_with fail
    refine bodyPost_ret (v := okR (kindT _) medium ⟨#[]⟩) ?_ rfl ⟨rfl, B2⟩
    simp [okR, noR, kindT, medium, results, Tryz.results6, go_sem, q0, q1, q2]
set_option maxRecDepth 100000 in
set_option maxHeartbeats 4000000 in
theorem rstyle_both (k : Bool) (r : ByteArray) (hl : lenB r = true) (hr9 : r.size ≤ 281474976710656) (w : World) :
    Calls Tryz.prog 6 #[.string (bothT ++ r), .bool k] w fun e w' => e = .returned (okR 3 r ⟨#[]⟩) ∧ Below w.heap.size w w' := by
  have hr := len_pos hl
  have HLn := length_any (bothT ++ r)
  rw [pre_len (pre_cat r)] at HLn
  have HLr := length_any r
  rw [hl] at HLr
  have q5 : (((bothT ++ r).extract 0 5).toList == [98, 111, 116, 104, 47]) = true := beq_iff_eq.2 (both_first r)
  have e2 := both_rest r
  have hz : (bothT ++ r).size = 5 + r.size := by rw [ByteArray.size_append]; rfl
  have hs : (bothT ++ r).toList.isEmpty = false := by rw [isE, hz]; exact decide_eq_false (by omega)
  rw [← hz] at e2
  generalize bothT ++ r = x at *
  have c5 : 5 < (x.size : Int) := by omega
  have z1 : ¬ x.size < 5 := by omega
  have z9 : x.size ≤ 562949953421312 := by omega
  clear hz
  have P2 := Blk.new w 24 #[.int .i64 3, .string r, .string ⟨#[]⟩]
  have B2 := (Below.refl w.heap.size w).alloc (Nat.le_refl _) (.cells #[.int .i64 3, .string r, .string ⟨#[]⟩] 24)
  have q0 := P2.at_ 0 rfl
  have q1 := P2.at_ 1 rfl
  have q2 := P2.at_ 2 rfl
  cases k <;> try simp only [kindT, Bool.false_eq_true, if_true, if_false] at B2 q0 q1 q2
  all_goals
    go_enter Tryz.func6, Tryz.ntmps6
    go_wp2_with fail
    refine (HLn _).mono ?_
    rintro e w1 ⟨rfl, rfl⟩
    go_wp2_with fail
    refine (HLr _).mono ?_
    rintro e w1 ⟨rfl, rfl⟩
    go_wp2_with fail
    refine bodyPost_ret (v := okR 3 r ⟨#[]⟩) ?_ rfl ⟨rfl, B2⟩
    simp [okR, noR, kindT, medium, results, Tryz.results6, go_sem, q0, q1, q2]
set_option maxRecDepth 100000 in
set_option maxHeartbeats 4000000 in
theorem rstyle_bothno (k : Bool) (r : ByteArray) (hl : lenB r = false) (hr : 0 < r.size) (hr9 : r.size ≤ 281474976710656) (w : World) :
    Calls Tryz.prog 6 #[.string (bothT ++ r), .bool k] w fun e w' => e = .returned (noR) ∧ Below w.heap.size w w' := by
  have HLn := length_any (bothT ++ r)
  rw [pre_len (pre_cat r)] at HLn
  have HLr := length_any r
  rw [hl] at HLr
  have q5 : (((bothT ++ r).extract 0 5).toList == [98, 111, 116, 104, 47]) = true := beq_iff_eq.2 (both_first r)
  have e2 := both_rest r
  have hz : (bothT ++ r).size = 5 + r.size := by rw [ByteArray.size_append]; rfl
  have hs : (bothT ++ r).toList.isEmpty = false := by rw [isE, hz]; exact decide_eq_false (by omega)
  rw [← hz] at e2
  generalize bothT ++ r = x at *
  have c5 : 5 < (x.size : Int) := by omega
  have z1 : ¬ x.size < 5 := by omega
  have z9 : x.size ≤ 562949953421312 := by omega
  clear hz
  have P2 := Blk.new w 24 #[.int .i64 0, .string ⟨#[]⟩, .string ⟨#[]⟩]
  have B2 := (Below.refl w.heap.size w).alloc (Nat.le_refl _) (.cells #[.int .i64 0, .string ⟨#[]⟩, .string ⟨#[]⟩] 24)
  have q0 := P2.at_ 0 rfl
  have q1 := P2.at_ 1 rfl
  have q2 := P2.at_ 2 rfl
  cases k <;> try simp only [kindT, Bool.false_eq_true, if_true, if_false] at B2 q0 q1 q2
  all_goals
    go_enter Tryz.func6, Tryz.ntmps6
    go_wp2_with fail
    refine (HLn _).mono ?_
    rintro e w1 ⟨rfl, rfl⟩
    go_wp2_with fail
    refine (HLr _).mono ?_
    rintro e w1 ⟨rfl, rfl⟩
    go_wp2_with fail
    refine bodyPost_ret (v := noR) ?_ rfl ⟨rfl, B2⟩
    simp [okR, noR, kindT, medium, results, Tryz.results6, go_sem, q0, q1, q2]
set_option maxRecDepth 100000 in
set_option maxHeartbeats 4000000 in
theorem rstyle_len (k : Bool) (s : ByteArray) (hs : s.toList.isEmpty = false) (hl : lenB s = true) (w : World) :
    Calls Tryz.prog 6 #[.string s, .bool k] w fun e w' => e = .returned (okR (kindT k) s ⟨#[]⟩) ∧ Below w.heap.size w w' := by
  have HLn := length_any s
  rw [hl] at HLn
  have HLr := HLn
  have P2 := Blk.new w 24 #[.int .i64 (kindT k), .string s, .string ⟨#[]⟩]
  have B2 := (Below.refl w.heap.size w).alloc (Nat.le_refl _) (.cells #[.int .i64 (kindT k), .string s, .string ⟨#[]⟩] 24)
  have q0 := P2.at_ 0 rfl
  have q1 := P2.at_ 1 rfl
  have q2 := P2.at_ 2 rfl
  cases k <;> try simp only [kindT, Bool.false_eq_true, if_true, if_false] at B2 q0 q1 q2
  all_goals
    go_enter Tryz.func6, Tryz.ntmps6
    go_wp2_with (first | (go_at_call 16; refine (HLn _).mono ?_; rintro e w1 ⟨rfl, rfl⟩))
    refine bodyPost_ret (v := okR (kindT _) s ⟨#[]⟩) ?_ rfl ⟨rfl, B2⟩
    simp [okR, noR, kindT, medium, results, Tryz.results6, go_sem, q0, q1, q2]
set_option maxRecDepth 100000 in
set_option maxHeartbeats 4000000 in
theorem rstyle_sks (k : Bool) (s : ByteArray) (hz : s.size ≤ 281474976710656) (l : List Fd) (hf : SkFine s l) (hs : s.toList.isEmpty = false) (hl : lenB s = false) (c5 : ¬ 5 < (s.size : Int)) (w : World) :
    Calls Tryz.prog 6 #[.string s, .bool k] w fun e w' => e = .returned (okR 0 ⟨#[]⟩ (formT l)) ∧ Below w.heap.size w w' := by
  have HLn := length_any s
  rw [hl] at HLn
  have hok := skelR_ok hf.2
  have HS : ∀ w1, Calls Tryz.prog 8 #[.string s] w1 _ := fun w1 => (refSkel_any s hz w1).mono fun e w2 hp => skelP_yes hf hp
  clear hf
  have P2 := Blk.new w 24 #[.int .i64 0, .string ⟨#[]⟩, .string ⟨#[]⟩]
  have B2 := (Below.refl w.heap.size w).alloc (Nat.le_refl _) (.cells #[.int .i64 0, .string ⟨#[]⟩, .string ⟨#[]⟩] 24)
  cases k
  all_goals
    go_enter Tryz.func6, Tryz.ntmps6
    go_wp2_with (first | (go_at_call 16; refine (HLn _).mono ?_; rintro e w1 ⟨rfl, rfl⟩) | (go_at_call 8; refine (HS _).mono ?_; rintro e w4 ⟨v, rfl, hown, hb4⟩; obtain ⟨A, c, rfl, hL⟩ := Flds.of_own hown; have P3 := P2.below hb4 P2.lt; have B3 := B2.trans (hb4.mono B2.size); have P4 := P3.alloc (.cells #[.int .i64 0, .int .i64 0] 35); have B4 := B3.alloc B3.size (.cells #[.int .i64 0, .int .i64 0] 35); have p0 := P4.at_ 0 (v := .int .i64 0) rfl; have p1 := P4.at_ 1 (v := .string ⟨#[]⟩) rfl; have p2 := P4.at_ 2 (v := .string ⟨#[]⟩) rfl; have f0 := P4.frozen; have P5 := ((P4.set_ 0 (.int .i64 0)).set_ 1 (.string ⟨#[]⟩)).set_ 2 (.string (formT l)); have B5 := ((B4.setCell (p := ⟨w.heap.size, 0, none⟩) (Nat.le_refl _) (.int .i64 0)).setCell (p := ⟨w.heap.size, 1, none⟩) (Nat.le_refl _) (.string ⟨#[]⟩)).setCell (p := ⟨w.heap.size, 2, none⟩) (Nat.le_refl _) (.string (formT l))) | (go_at_call 17; refine (refPrint_sk A l c w4.heap.size hok.1 hok.2 _ (hL.alloc (Nat.le_refl _) _)).mono ?_; rintro e w5 ⟨rfl, rfl⟩))
    clear p0 p1 p2 f0 P4 P3 B4 B3
    generalize World.setCell _ ⟨w.heap.size, 2, none⟩ _ = w9 at *
    have q0 := P5.at_ 0 rfl
    have q1 := P5.at_ 1 rfl
    have q2 := P5.at_ 2 rfl
    refine bodyPost_ret (v := okR 0 ⟨#[]⟩ (formT l)) ?_ rfl ⟨rfl, B5⟩
    simp [okR, noR, kindT, results, Tryz.results6, go_sem, q0, q1, q2]
set_option maxRecDepth 100000 in
set_option maxHeartbeats 4000000 in
theorem rstyle_sknos (k : Bool) (s : ByteArray) (hz : s.size ≤ 281474976710656) (a b : Int) (hf : SkWrong s a b) (hs : s.toList.isEmpty = false) (hl : lenB s = false) (c5 : ¬ 5 < (s.size : Int)) (w : World) :
    Calls Tryz.prog 6 #[.string s, .bool k] w fun e w' => e = .returned (noR) ∧ Below w.heap.size w w' := by
  have HLn := length_any s
  rw [hl] at HLn
  have hne := hf.ne
  have HS : ∀ w1, Calls Tryz.prog 8 #[.string s] w1 _ := fun w1 => (refSkel_any s hz w1).mono fun e w2 hp => skelP_wrong hf hp
  clear hf
  have P2 := Blk.new w 24 #[.int .i64 0, .string ⟨#[]⟩, .string ⟨#[]⟩]
  have B2 := (Below.refl w.heap.size w).alloc (Nat.le_refl _) (.cells #[.int .i64 0, .string ⟨#[]⟩, .string ⟨#[]⟩] 24)
  cases k
  all_goals
    go_enter Tryz.func6, Tryz.ntmps6
    go_wp2_with (first | (go_at_call 16; refine (HLn _).mono ?_; rintro e w1 ⟨rfl, rfl⟩) | (go_at_call 8; refine (HS _).mono ?_; rintro e w4 ⟨rfl, hb4⟩; have P3 := P2.below hb4 P2.lt; have B3 := B2.trans (hb4.mono B2.size); have P4 := P3.alloc (.cells #[.int .i64 a, .int .i64 b] 35); have B4 := B3.alloc B3.size (.cells #[.int .i64 a, .int .i64 b] 35); have p0 := P4.at_ 0 (v := .int .i64 0) rfl; have p1 := P4.at_ 1 (v := .string ⟨#[]⟩) rfl; have p2 := P4.at_ 2 (v := .string ⟨#[]⟩) rfl; have f0 := P4.frozen; have P5 := ((P4.set_ 0 (.int .i64 0)).set_ 1 (.string ⟨#[]⟩)).set_ 2 (.string ⟨#[]⟩); have B5 := ((B4.setCell (p := ⟨w.heap.size, 0, none⟩) (Nat.le_refl _) (.int .i64 0)).setCell (p := ⟨w.heap.size, 1, none⟩) (Nat.le_refl _) (.string ⟨#[]⟩)).setCell (p := ⟨w.heap.size, 2, none⟩) (Nat.le_refl _) (.string ⟨#[]⟩)))
    clear p0 p1 p2 f0 P4 P3 B4 B3
    generalize World.setCell _ ⟨w.heap.size, 2, none⟩ _ = w9 at *
    have q0 := P5.at_ 0 rfl
    have q1 := P5.at_ 1 rfl
    have q2 := P5.at_ 2 rfl
    refine bodyPost_ret (v := noR) ?_ rfl ⟨rfl, B5⟩
    simp [okR, noR, kindT, results, Tryz.results6, go_sem, q0, q1, q2]
set_option maxRecDepth 100000 in
set_option maxHeartbeats 4000000 in
theorem rstyle_sk (k : Bool) (s : ByteArray) (hz : s.size ≤ 281474976710656) (l : List Fd) (hf : SkFine s l) (hs : s.toList.isEmpty = false) (hl : lenB s = false) (c5 : 5 < (s.size : Int)) (q5 : ((s.extract 0 5).toList == [98, 111, 116, 104, 47]) = false) (w : World) :
    Calls Tryz.prog 6 #[.string s, .bool k] w fun e w' => e = .returned (okR 0 ⟨#[]⟩ (formT l)) ∧ Below w.heap.size w w' := by
  have HLn := length_any s
  rw [hl] at HLn
  have z1 : ¬ s.size < 5 := by omega
  have hok := skelR_ok hf.2
  have HS : ∀ w1, Calls Tryz.prog 8 #[.string s] w1 _ := fun w1 => (refSkel_any s hz w1).mono fun e w2 hp => skelP_yes hf hp
  clear hf
  have P2 := Blk.new w 24 #[.int .i64 0, .string ⟨#[]⟩, .string ⟨#[]⟩]
  have B2 := (Below.refl w.heap.size w).alloc (Nat.le_refl _) (.cells #[.int .i64 0, .string ⟨#[]⟩, .string ⟨#[]⟩] 24)
  cases k
  all_goals
    go_enter Tryz.func6, Tryz.ntmps6
    go_wp2_with (first | (go_at_call 16; refine (HLn _).mono ?_; rintro e w1 ⟨rfl, rfl⟩) | (go_at_call 8; refine (HS _).mono ?_; rintro e w4 ⟨v, rfl, hown, hb4⟩; obtain ⟨A, c, rfl, hL⟩ := Flds.of_own hown; have P3 := P2.below hb4 P2.lt; have B3 := B2.trans (hb4.mono B2.size); have P4 := P3.alloc (.cells #[.int .i64 0, .int .i64 0] 35); have B4 := B3.alloc B3.size (.cells #[.int .i64 0, .int .i64 0] 35); have p0 := P4.at_ 0 (v := .int .i64 0) rfl; have p1 := P4.at_ 1 (v := .string ⟨#[]⟩) rfl; have p2 := P4.at_ 2 (v := .string ⟨#[]⟩) rfl; have f0 := P4.frozen; have P5 := ((P4.set_ 0 (.int .i64 0)).set_ 1 (.string ⟨#[]⟩)).set_ 2 (.string (formT l)); have B5 := ((B4.setCell (p := ⟨w.heap.size, 0, none⟩) (Nat.le_refl _) (.int .i64 0)).setCell (p := ⟨w.heap.size, 1, none⟩) (Nat.le_refl _) (.string ⟨#[]⟩)).setCell (p := ⟨w.heap.size, 2, none⟩) (Nat.le_refl _) (.string (formT l))) | (go_at_call 17; refine (refPrint_sk A l c w4.heap.size hok.1 hok.2 _ (hL.alloc (Nat.le_refl _) _)).mono ?_; rintro e w5 ⟨rfl, rfl⟩))
    clear p0 p1 p2 f0 P4 P3 B4 B3
    generalize World.setCell _ ⟨w.heap.size, 2, none⟩ _ = w9 at *
    have q0 := P5.at_ 0 rfl
    have q1 := P5.at_ 1 rfl
    have q2 := P5.at_ 2 rfl
    refine bodyPost_ret (v := okR 0 ⟨#[]⟩ (formT l)) ?_ rfl ⟨rfl, B5⟩
    simp [okR, noR, kindT, results, Tryz.results6, go_sem, q0, q1, q2]
set_option maxRecDepth 100000 in
set_option maxHeartbeats 4000000 in
theorem rstyle_skno (k : Bool) (s : ByteArray) (hz : s.size ≤ 281474976710656) (a b : Int) (hf : SkWrong s a b) (hs : s.toList.isEmpty = false) (hl : lenB s = false) (c5 : 5 < (s.size : Int)) (q5 : ((s.extract 0 5).toList == [98, 111, 116, 104, 47]) = false) (w : World) :
    Calls Tryz.prog 6 #[.string s, .bool k] w fun e w' => e = .returned (noR) ∧ Below w.heap.size w w' := by
  have HLn := length_any s
  rw [hl] at HLn
  have z1 : ¬ s.size < 5 := by omega
  have hne := hf.ne
  have HS : ∀ w1, Calls Tryz.prog 8 #[.string s] w1 _ := fun w1 => (refSkel_any s hz w1).mono fun e w2 hp => skelP_wrong hf hp
  clear hf
  have P2 := Blk.new w 24 #[.int .i64 0, .string ⟨#[]⟩, .string ⟨#[]⟩]
  have B2 := (Below.refl w.heap.size w).alloc (Nat.le_refl _) (.cells #[.int .i64 0, .string ⟨#[]⟩, .string ⟨#[]⟩] 24)
  cases k
  all_goals
    go_enter Tryz.func6, Tryz.ntmps6
    go_wp2_with (first | (go_at_call 16; refine (HLn _).mono ?_; rintro e w1 ⟨rfl, rfl⟩) | (go_at_call 8; refine (HS _).mono ?_; rintro e w4 ⟨rfl, hb4⟩; have P3 := P2.below hb4 P2.lt; have B3 := B2.trans (hb4.mono B2.size); have P4 := P3.alloc (.cells #[.int .i64 a, .int .i64 b] 35); have B4 := B3.alloc B3.size (.cells #[.int .i64 a, .int .i64 b] 35); have p0 := P4.at_ 0 (v := .int .i64 0) rfl; have p1 := P4.at_ 1 (v := .string ⟨#[]⟩) rfl; have p2 := P4.at_ 2 (v := .string ⟨#[]⟩) rfl; have f0 := P4.frozen; have P5 := ((P4.set_ 0 (.int .i64 0)).set_ 1 (.string ⟨#[]⟩)).set_ 2 (.string ⟨#[]⟩); have B5 := ((B4.setCell (p := ⟨w.heap.size, 0, none⟩) (Nat.le_refl _) (.int .i64 0)).setCell (p := ⟨w.heap.size, 1, none⟩) (Nat.le_refl _) (.string ⟨#[]⟩)).setCell (p := ⟨w.heap.size, 2, none⟩) (Nat.le_refl _) (.string ⟨#[]⟩)))
    clear p0 p1 p2 f0 P4 P3 B4 B3
    generalize World.setCell _ ⟨w.heap.size, 2, none⟩ _ = w9 at *
    have q0 := P5.at_ 0 rfl
    have q1 := P5.at_ 1 rfl
    have q2 := P5.at_ 2 rfl
    refine bodyPost_ret (v := noR) ?_ rfl ⟨rfl, B5⟩
    simp [okR, noR, kindT, results, Tryz.results6, go_sem, q0, q1, q2]
end Go.Proofs.YtdkekhaamhphcaaGreatDoor
