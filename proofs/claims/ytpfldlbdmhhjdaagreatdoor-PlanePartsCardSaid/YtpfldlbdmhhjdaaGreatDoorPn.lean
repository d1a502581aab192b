/-
  The walk of PlaneParts. Conditions: what the listed variables hold.
-/
import Derived.Test.YtpfldlbdmhhjdaaGreatDoorPm
import Derived.Test.YtpfldlbdmhhjdaaGreatDoorDw
set_option linter.unusedVariables false
set_option linter.unusedSimpArgs false
namespace Go.Proofs.YtpfldlbdmhhjdaaGreatDoor
open Go.RowKit Go.Fl Go.Sort
set_option maxRecDepth 100000 in
set_option maxHeartbeats 4000000 in
theorem parts_scale (a b : Nat) (ha : a < 18446744073709551616) (hb : b < 18446744073709551616) (d : Int) (hd : d < 0 ∨ 40 < d) (w : World) (hg : Glob w) : Calls Tryz.prog 3 #[.agg #[.int .u64 (a : Int), .int .u64 (b : Int)], .int .i64 d] w fun e w' => e = .returned (.bool true) ∧ Below w.heap.size w w' := by
  have HK := fun (w : World) (hg : Glob w) => wakes_yes hg
  have H5 := number_any (a : Int) (b : Int)
  rw [Int.toNat_natCast, Int.toNat_natCast] at H5
  have B0 : Below w.heap.size w (w.alloc (.cells #[.int .u64 (a : Int), .int .u64 (b : Int)] 24)) := (Below.refl _ _).alloc (Nat.le_refl _) _
  have BB : Below (w.heap.size + 1) (w.alloc (.cells #[.int .u64 (a : Int), .int .u64 (b : Int)] 24)) (w.alloc (.cells #[.int .u64 (a : Int), .int .u64 (b : Int)] 24)) := Below.refl _ _
  have P1 := fun (W : World) (h : Glob W) => Parts_any a b ha hb d W h.pow
  have e1 : errP a b d = 2 := if_pos hd
  have e2 : errP b a d = 2 := if_pos hd
  rw [part_bad (by rw [e1]; decide), part_bad (by rw [e2]; decide), e1] at P1
  unfold zeroD at P1
  have key : d < 0 ∨ ¬ d < 0 ∧ 40 < d := by omega
  clear hd e1 e2 ha hb
  rcases key with q1 | ⟨q1, q2⟩
  all_goals
    go_enter Tryz.func3, Tryz.ntmps3
    go_wp2_with fail
    refine (HK _ (hg.below B0)).mono ?_
    rintro e w1 ⟨rfl, hb⟩
    have c0 : w1.cell? ⟨w.heap.size, 0, none⟩ = some (.int .u64 (a : Int)) := (hb.cell (p := ⟨w.heap.size, 0, none⟩) (by simp)).trans (by simp)
    have c1 : w1.cell? ⟨w.heap.size, 1, none⟩ = some (.int .u64 (b : Int)) := (hb.cell (p := ⟨w.heap.size, 1, none⟩) (by simp)).trans (by simp)
    have B1 := B0.trans (hb.mono B0.size)
    have BB1 : Below (w.heap.size + 1) (w.alloc (.cells #[.int .u64 (a : Int), .int .u64 (b : Int)] 24)) w1 := BB.trans (hb.mono (by simp))
    have hz1 : w.heap.size + 1 ≤ w1.heap.size := by have := BB1.size; rw [World.size_alloc] at this; exact this
    clear B0 BB hb HK
    go_wp2_with fail
    refine (H5 _).mono ?_
    rintro e w2 ⟨rfl, hb⟩
    have B2 := B1.trans (hb.mono B1.size)
    have BB2 := BB1.trans (hb.mono hz1)
    have hz2 := Nat.le_trans hz1 hb.size
    clear B1 BB1 hz1 hb c0 c1 H5
    go_wp2_with fail
    refine (P1 _ (hg.below B2)).mono ?_
    rintro e w3 ⟨rfl, hb⟩
    have B3 := B2.trans (hb.mono B2.size)
    have BB3 := BB2.trans (hb.mono hz2)
    have hz3 := Nat.le_trans hz2 hb.size
    clear B2 BB2 hz2 hb P1
    go_wp2_with fail
    refine bodyPost_ret (v := .bool true) ?_ rfl ⟨rfl, ?_⟩
    · simp [results, Tryz.results3, go_sem]
    · exact ((B3.alloc B3.size _).alloc (by have := B3.size; simp; omega) _).alloc (by have := B3.size; simp; omega) _
set_option maxRecDepth 100000 in
set_option maxHeartbeats 4000000 in
theorem parts_bad_bad (a b : Nat) (ha : a < 18446744073709551616) (hb : b < 18446744073709551616) (hf : finW a = false) (hf2 : finW b = false) (sc : Nat) (hsc : sc ≤ 40) (w : World) (hg : Glob w) : Calls Tryz.prog 3 #[.agg #[.int .u64 (a : Int), .int .u64 (b : Int)], .int .i64 (sc : Int)] w fun e w' => e = .returned (.bool true) ∧ Below w.heap.size w w' := by
  have HK := fun (w : World) (hg : Glob w) => wakes_yes hg
  have H5 := number_any (a : Int) (b : Int)
  rw [Int.toNat_natCast, Int.toNat_natCast] at H5
  have B0 : Below w.heap.size w (w.alloc (.cells #[.int .u64 (a : Int), .int .u64 (b : Int)] 24)) := (Below.refl _ _).alloc (Nat.le_refl _) _
  have BB : Below (w.heap.size + 1) (w.alloc (.cells #[.int .u64 (a : Int), .int .u64 (b : Int)] 24)) (w.alloc (.cells #[.int .u64 (a : Int), .int .u64 (b : Int)] 24)) := Below.refl _ _
  have P1 := fun (W : World) (h : Glob W) => Parts_any a b ha hb sc W h.pow
  have hx : ¬ ((sc : Int) < 0 ∨ 40 < (sc : Int)) := by omega
  have e1 : errP a b sc = 7 := by unfold errP; rw [if_neg hx, hf, hf2]; rfl
  have e2 : errP b a sc = 7 := by unfold errP; rw [if_neg hx, hf, hf2]; rfl
  have Q1 := fun W : World => refPart_bad a ha hf (sc : Int) W
  have Q2 := fun W : World => refPart_bad b hb hf2 (sc : Int) W
  rw [part_bad (by rw [e1]; decide), part_bad (by rw [e2]; decide), e1] at P1
  unfold zeroD at P1
  clear hx e1 e2 ha hb hf hf2
  have u1 : ¬ (sc : Int) < 0 := by omega
  have u2 : ¬ 40 < (sc : Int) := by omega
  go_enter Tryz.func3, Tryz.ntmps3
  go_wp2_with fail
  refine (HK _ (hg.below B0)).mono ?_
  rintro e w1 ⟨rfl, hb⟩
  have c0 : w1.cell? ⟨w.heap.size, 0, none⟩ = some (.int .u64 (a : Int)) := (hb.cell (p := ⟨w.heap.size, 0, none⟩) (by simp)).trans (by simp)
  have c1 : w1.cell? ⟨w.heap.size, 1, none⟩ = some (.int .u64 (b : Int)) := (hb.cell (p := ⟨w.heap.size, 1, none⟩) (by simp)).trans (by simp)
  have B1 := B0.trans (hb.mono B0.size)
  have BB1 : Below (w.heap.size + 1) (w.alloc (.cells #[.int .u64 (a : Int), .int .u64 (b : Int)] 24)) w1 := BB.trans (hb.mono (by simp))
  have hz1 : w.heap.size + 1 ≤ w1.heap.size := by have := BB1.size; rw [World.size_alloc] at this; exact this
  clear B0 BB hb HK
  go_wp2_with fail
  refine (H5 _).mono ?_
  rintro e w2 ⟨rfl, hb⟩
  have B2 := B1.trans (hb.mono B1.size)
  have BB2 := BB1.trans (hb.mono hz1)
  have hz2 := Nat.le_trans hz1 hb.size
  clear B1 BB1 hz1 hb c0 c1 H5
  go_wp2_with fail
  refine (P1 _ (hg.below B2)).mono ?_
  rintro e w3 ⟨rfl, hb⟩
  have B3 := B2.trans (hb.mono B2.size)
  have BB3 := BB2.trans (hb.mono hz2)
  have hz3 := Nat.le_trans hz2 hb.size
  clear B2 BB2 hz2 hb P1
  have B4 := ((B3.alloc B3.size (.cells #[.bool false, .string ⟨#[]⟩, .int .i64 0] 27)).alloc (by have := B3.size; simp; omega) (.cells #[.bool false, .string ⟨#[]⟩, .int .i64 0] 27)).alloc (by have := B3.size; simp; omega) (.cells #[.bool false, .string ⟨#[]⟩, .int .i64 0] 27)
  have BB4 := ((BB3.alloc hz3 (.cells #[.bool false, .string ⟨#[]⟩, .int .i64 0] 27)).alloc (by simp; omega) (.cells #[.bool false, .string ⟨#[]⟩, .int .i64 0] 27)).alloc (by simp; omega) (.cells #[.bool false, .string ⟨#[]⟩, .int .i64 0] 27)
  have hz4 : w.heap.size + 1 ≤ (((w3.alloc (.cells #[.bool false, .string ⟨#[]⟩, .int .i64 0] 27)).alloc (.cells #[.bool false, .string ⟨#[]⟩, .int .i64 0] 27)).alloc (.cells #[.bool false, .string ⟨#[]⟩, .int .i64 0] 27)).heap.size := by simp; omega
  have X5 := ((Box.made w3 false ⟨#[]⟩ 0 27).alloc (.cells #[.bool false, .string ⟨#[]⟩, .int .i64 0] 27)).alloc (.cells #[.bool false, .string ⟨#[]⟩, .int .i64 0] 27)
  have X6 := (Box.made (w3.alloc (.cells #[.bool false, .string ⟨#[]⟩, .int .i64 0] 27)) false ⟨#[]⟩ 0 27).alloc (.cells #[.bool false, .string ⟨#[]⟩, .int .i64 0] 27)
  have X8 := Box.made ((w3.alloc (.cells #[.bool false, .string ⟨#[]⟩, .int .i64 0] 27)).alloc (.cells #[.bool false, .string ⟨#[]⟩, .int .i64 0] 27)) false ⟨#[]⟩ 0 27
  rw [World.size_alloc] at X6
  rw [World.size_alloc, World.size_alloc] at X8
  have c0 := (BB4.cell (p := ⟨w.heap.size, 0, none⟩) (by simp)).trans (show (w.alloc (.cells #[.int .u64 (a : Int), .int .u64 (b : Int)] 24)).cell? ⟨w.heap.size, 0, none⟩ = some (.int .u64 (a : Int)) by simp)
  have c1 := (BB4.cell (p := ⟨w.heap.size, 1, none⟩) (by simp)).trans (show (w.alloc (.cells #[.int .u64 (a : Int), .int .u64 (b : Int)] 24)).cell? ⟨w.heap.size, 1, none⟩ = some (.int .u64 (b : Int)) by simp)
  clear B3 BB3 hz3
  go_wp2_with fail
  refine (Q1 _).mono ?_
  rintro e w5 ⟨rfl, hb⟩
  have B5 := (B4.trans (hb.mono B4.size)).alloc (Nat.le_trans B4.size hb.size) (.cells #[.bool false, .string ⟨#[]⟩, .int .i64 0] 27)
  have BB5 := (BB4.trans (hb.mono hz4)).alloc (Nat.le_trans hz4 hb.size) (.cells #[.bool false, .string ⟨#[]⟩, .int .i64 0] 27)
  have hz5 : w.heap.size + 1 ≤ (w5.alloc (.cells #[.bool false, .string ⟨#[]⟩, .int .i64 0] 27)).heap.size := by have := Nat.le_trans hz4 hb.size; simp; omega
  have Y5 := (X5.below hb).alloc (.cells #[.bool false, .string ⟨#[]⟩, .int .i64 0] 27)
  have Y6 := (X6.below hb).alloc (.cells #[.bool false, .string ⟨#[]⟩, .int .i64 0] 27)
  have Y8 := (X8.below hb).alloc (.cells #[.bool false, .string ⟨#[]⟩, .int .i64 0] 27)
  have Y9 := Box.made w5 false ⟨#[]⟩ 0 27
  clear c0 c1
  have c0 := (BB5.cell (p := ⟨w.heap.size, 0, none⟩) (by simp)).trans (show (w.alloc (.cells #[.int .u64 (a : Int), .int .u64 (b : Int)] 24)).cell? ⟨w.heap.size, 0, none⟩ = some (.int .u64 (a : Int)) by simp)
  have c1 := (BB5.cell (p := ⟨w.heap.size, 1, none⟩) (by simp)).trans (show (w.alloc (.cells #[.int .u64 (a : Int), .int .u64 (b : Int)] 24)).cell? ⟨w.heap.size, 1, none⟩ = some (.int .u64 (b : Int)) by simp)
  clear X5 X6 X8 B4 BB4 hz4 hb Q1
  go_wp2_with fail
  refine (Q2 _).mono ?_
  rintro e w6 ⟨rfl, hb⟩
  have B6 := (B5.trans (hb.mono B5.size)).alloc (Nat.le_trans B5.size hb.size) (.cells #[.bool false, .string ⟨#[]⟩, .int .i64 0] 27)
  have X5 := (Y5.below hb).alloc (.cells #[.bool false, .string ⟨#[]⟩, .int .i64 0] 27)
  have X6 := (Y6.below hb).alloc (.cells #[.bool false, .string ⟨#[]⟩, .int .i64 0] 27)
  have X8 := (Y8.below hb).alloc (.cells #[.bool false, .string ⟨#[]⟩, .int .i64 0] 27)
  have X9 := (Y9.below hb).alloc (.cells #[.bool false, .string ⟨#[]⟩, .int .i64 0] 27)
  clear Y5 Y6 Y8 Y9 B5 BB5 hz5 hb Q2 c0 c1
  obtain ⟨j0, j1, j2, _⟩ := X5
  obtain ⟨k0, k1, k2, _⟩ := X6
  obtain ⟨l0, l1, l2, _⟩ := X8
  obtain ⟨m0, m1, m2, _⟩ := X9
  go_wp2_with fail
  refine bodyPost_ret (v := .bool true) ?_ rfl ⟨rfl, B6⟩
  simp [results, Tryz.results3, go_sem]
set_option maxRecDepth 100000 in
set_option maxHeartbeats 4000000 in
theorem parts_bad_good (a b : Nat) (ha : a < 18446744073709551616) (hb : b < 18446744073709551616) (hf : finW a = false) (hf2 : finW b = true) (sc : Nat) (hsc : sc ≤ 40) (w : World) (hg : Glob w) : Calls Tryz.prog 3 #[.agg #[.int .u64 (a : Int), .int .u64 (b : Int)], .int .i64 (sc : Int)] w fun e w' => e = .returned (.bool true) ∧ Below w.heap.size w w' := by
  have HK := fun (w : World) (hg : Glob w) => wakes_yes hg
  have H5 := number_any (a : Int) (b : Int)
  rw [Int.toNat_natCast, Int.toNat_natCast] at H5
  have B0 : Below w.heap.size w (w.alloc (.cells #[.int .u64 (a : Int), .int .u64 (b : Int)] 24)) := (Below.refl _ _).alloc (Nat.le_refl _) _
  have BB : Below (w.heap.size + 1) (w.alloc (.cells #[.int .u64 (a : Int), .int .u64 (b : Int)] 24)) (w.alloc (.cells #[.int .u64 (a : Int), .int .u64 (b : Int)] 24)) := Below.refl _ _
  have P1 := fun (W : World) (h : Glob W) => Parts_any a b ha hb sc W h.pow
  have hx : ¬ ((sc : Int) < 0 ∨ 40 < (sc : Int)) := by omega
  have e1 : errP a b sc = 7 := by unfold errP; rw [if_neg hx, hf, hf2]; rfl
  have e2 : errP b a sc = 7 := by unfold errP; rw [if_neg hx, hf, hf2]; rfl
  have Q1 := fun W : World => refPart_bad a ha hf (sc : Int) W
  have Q2 := fun W : World => refPart_good b hb hf2 sc hsc W
  obtain ⟨r2, hr2⟩ : ∃ r, r = (decide (b / 9223372036854775808 = 1) && decide (numF b sc ≠ 0)) := ⟨_, rfl⟩
  obtain ⟨s2, hs2⟩ : ∃ s : ByteArray, s = ⟨(Lib.decDigits (numF b sc)).toArray⟩ := ⟨_, rfl⟩
  have q2 : decV (decide (b / 9223372036854775808 = 1)) (numF b sc) sc = .agg #[.bool r2, .string s2, .int .i64 (sc : Int)] := by rw [hr2, hs2]; rfl
  rw [q2] at Q2
  rw [part_bad (by rw [e1]; decide), part_bad (by rw [e2]; decide), e1] at P1
  unfold zeroD at P1
  clear hx e1 e2 ha hb hf hf2 hr2 hs2 q2
  have u1 : ¬ (sc : Int) < 0 := by omega
  have u2 : ¬ 40 < (sc : Int) := by omega
  go_enter Tryz.func3, Tryz.ntmps3
  go_wp2_with fail
  refine (HK _ (hg.below B0)).mono ?_
  rintro e w1 ⟨rfl, hb⟩
  have c0 : w1.cell? ⟨w.heap.size, 0, none⟩ = some (.int .u64 (a : Int)) := (hb.cell (p := ⟨w.heap.size, 0, none⟩) (by simp)).trans (by simp)
  have c1 : w1.cell? ⟨w.heap.size, 1, none⟩ = some (.int .u64 (b : Int)) := (hb.cell (p := ⟨w.heap.size, 1, none⟩) (by simp)).trans (by simp)
  have B1 := B0.trans (hb.mono B0.size)
  have BB1 : Below (w.heap.size + 1) (w.alloc (.cells #[.int .u64 (a : Int), .int .u64 (b : Int)] 24)) w1 := BB.trans (hb.mono (by simp))
  have hz1 : w.heap.size + 1 ≤ w1.heap.size := by have := BB1.size; rw [World.size_alloc] at this; exact this
  clear B0 BB hb HK
  go_wp2_with fail
  refine (H5 _).mono ?_
  rintro e w2 ⟨rfl, hb⟩
  have B2 := B1.trans (hb.mono B1.size)
  have BB2 := BB1.trans (hb.mono hz1)
  have hz2 := Nat.le_trans hz1 hb.size
  clear B1 BB1 hz1 hb c0 c1 H5
  go_wp2_with fail
  refine (P1 _ (hg.below B2)).mono ?_
  rintro e w3 ⟨rfl, hb⟩
  have B3 := B2.trans (hb.mono B2.size)
  have BB3 := BB2.trans (hb.mono hz2)
  have hz3 := Nat.le_trans hz2 hb.size
  clear B2 BB2 hz2 hb P1
  have B4 := ((B3.alloc B3.size (.cells #[.bool false, .string ⟨#[]⟩, .int .i64 0] 27)).alloc (by have := B3.size; simp; omega) (.cells #[.bool false, .string ⟨#[]⟩, .int .i64 0] 27)).alloc (by have := B3.size; simp; omega) (.cells #[.bool false, .string ⟨#[]⟩, .int .i64 0] 27)
  have BB4 := ((BB3.alloc hz3 (.cells #[.bool false, .string ⟨#[]⟩, .int .i64 0] 27)).alloc (by simp; omega) (.cells #[.bool false, .string ⟨#[]⟩, .int .i64 0] 27)).alloc (by simp; omega) (.cells #[.bool false, .string ⟨#[]⟩, .int .i64 0] 27)
  have hz4 : w.heap.size + 1 ≤ (((w3.alloc (.cells #[.bool false, .string ⟨#[]⟩, .int .i64 0] 27)).alloc (.cells #[.bool false, .string ⟨#[]⟩, .int .i64 0] 27)).alloc (.cells #[.bool false, .string ⟨#[]⟩, .int .i64 0] 27)).heap.size := by simp; omega
  have X5 := ((Box.made w3 false ⟨#[]⟩ 0 27).alloc (.cells #[.bool false, .string ⟨#[]⟩, .int .i64 0] 27)).alloc (.cells #[.bool false, .string ⟨#[]⟩, .int .i64 0] 27)
  have X6 := (Box.made (w3.alloc (.cells #[.bool false, .string ⟨#[]⟩, .int .i64 0] 27)) false ⟨#[]⟩ 0 27).alloc (.cells #[.bool false, .string ⟨#[]⟩, .int .i64 0] 27)
  have X8 := Box.made ((w3.alloc (.cells #[.bool false, .string ⟨#[]⟩, .int .i64 0] 27)).alloc (.cells #[.bool false, .string ⟨#[]⟩, .int .i64 0] 27)) false ⟨#[]⟩ 0 27
  rw [World.size_alloc] at X6
  rw [World.size_alloc, World.size_alloc] at X8
  have c0 := (BB4.cell (p := ⟨w.heap.size, 0, none⟩) (by simp)).trans (show (w.alloc (.cells #[.int .u64 (a : Int), .int .u64 (b : Int)] 24)).cell? ⟨w.heap.size, 0, none⟩ = some (.int .u64 (a : Int)) by simp)
  have c1 := (BB4.cell (p := ⟨w.heap.size, 1, none⟩) (by simp)).trans (show (w.alloc (.cells #[.int .u64 (a : Int), .int .u64 (b : Int)] 24)).cell? ⟨w.heap.size, 1, none⟩ = some (.int .u64 (b : Int)) by simp)
  clear B3 BB3 hz3
  go_wp2_with fail
  refine (Q1 _).mono ?_
  rintro e w5 ⟨rfl, hb⟩
  have B5 := (B4.trans (hb.mono B4.size)).alloc (Nat.le_trans B4.size hb.size) (.cells #[.bool false, .string ⟨#[]⟩, .int .i64 0] 27)
  have BB5 := (BB4.trans (hb.mono hz4)).alloc (Nat.le_trans hz4 hb.size) (.cells #[.bool false, .string ⟨#[]⟩, .int .i64 0] 27)
  have hz5 : w.heap.size + 1 ≤ (w5.alloc (.cells #[.bool false, .string ⟨#[]⟩, .int .i64 0] 27)).heap.size := by have := Nat.le_trans hz4 hb.size; simp; omega
  have Y5 := (X5.below hb).alloc (.cells #[.bool false, .string ⟨#[]⟩, .int .i64 0] 27)
  have Y6 := (X6.below hb).alloc (.cells #[.bool false, .string ⟨#[]⟩, .int .i64 0] 27)
  have Y8 := (X8.below hb).alloc (.cells #[.bool false, .string ⟨#[]⟩, .int .i64 0] 27)
  have Y9 := Box.made w5 false ⟨#[]⟩ 0 27
  clear c0 c1
  have c0 := (BB5.cell (p := ⟨w.heap.size, 0, none⟩) (by simp)).trans (show (w.alloc (.cells #[.int .u64 (a : Int), .int .u64 (b : Int)] 24)).cell? ⟨w.heap.size, 0, none⟩ = some (.int .u64 (a : Int)) by simp)
  have c1 := (BB5.cell (p := ⟨w.heap.size, 1, none⟩) (by simp)).trans (show (w.alloc (.cells #[.int .u64 (a : Int), .int .u64 (b : Int)] 24)).cell? ⟨w.heap.size, 1, none⟩ = some (.int .u64 (b : Int)) by simp)
  clear X5 X6 X8 B4 BB4 hz4 hb Q1
  go_wp2_with fail
  refine (Q2 _).mono ?_
  rintro e w6 ⟨rfl, hb⟩
  have B6 := (B5.trans (hb.mono B5.size)).alloc (Nat.le_trans B5.size hb.size) (.cells #[.bool r2, .string s2, .int .i64 (sc : Int)] 27)
  have X5 := (Y5.below hb).alloc (.cells #[.bool r2, .string s2, .int .i64 (sc : Int)] 27)
  have X6 := (Y6.below hb).alloc (.cells #[.bool r2, .string s2, .int .i64 (sc : Int)] 27)
  have X8 := (Y8.below hb).alloc (.cells #[.bool r2, .string s2, .int .i64 (sc : Int)] 27)
  have X9 := (Y9.below hb).alloc (.cells #[.bool r2, .string s2, .int .i64 (sc : Int)] 27)
  clear Y5 Y6 Y8 Y9 B5 BB5 hz5 hb Q2 c0 c1
  obtain ⟨j0, j1, j2, _⟩ := X5
  obtain ⟨k0, k1, k2, _⟩ := X6
  obtain ⟨l0, l1, l2, _⟩ := X8
  obtain ⟨m0, m1, m2, _⟩ := X9
  go_wp2_with fail
  refine bodyPost_ret (v := .bool true) ?_ rfl ⟨rfl, B6⟩
  simp [results, Tryz.results3, go_sem]
set_option maxRecDepth 100000 in
set_option maxHeartbeats 4000000 in
theorem parts_good_bad (a b : Nat) (ha : a < 18446744073709551616) (hb : b < 18446744073709551616) (hf : finW a = true) (hf2 : finW b = false) (sc : Nat) (hsc : sc ≤ 40) (w : World) (hg : Glob w) : Calls Tryz.prog 3 #[.agg #[.int .u64 (a : Int), .int .u64 (b : Int)], .int .i64 (sc : Int)] w fun e w' => e = .returned (.bool true) ∧ Below w.heap.size w w' := by
  have HK := fun (w : World) (hg : Glob w) => wakes_yes hg
  have H5 := number_any (a : Int) (b : Int)
  rw [Int.toNat_natCast, Int.toNat_natCast] at H5
  have B0 : Below w.heap.size w (w.alloc (.cells #[.int .u64 (a : Int), .int .u64 (b : Int)] 24)) := (Below.refl _ _).alloc (Nat.le_refl _) _
  have BB : Below (w.heap.size + 1) (w.alloc (.cells #[.int .u64 (a : Int), .int .u64 (b : Int)] 24)) (w.alloc (.cells #[.int .u64 (a : Int), .int .u64 (b : Int)] 24)) := Below.refl _ _
  have P1 := fun (W : World) (h : Glob W) => Parts_any a b ha hb sc W h.pow
  have hx : ¬ ((sc : Int) < 0 ∨ 40 < (sc : Int)) := by omega
  have e1 : errP a b sc = 7 := by unfold errP; rw [if_neg hx, hf, hf2]; rfl
  have e2 : errP b a sc = 7 := by unfold errP; rw [if_neg hx, hf, hf2]; rfl
  have Q1 := fun W : World => refPart_good a ha hf sc hsc W
  obtain ⟨r1, hr1⟩ : ∃ r, r = (decide (a / 9223372036854775808 = 1) && decide (numF a sc ≠ 0)) := ⟨_, rfl⟩
  obtain ⟨s1, hs1⟩ : ∃ s : ByteArray, s = ⟨(Lib.decDigits (numF a sc)).toArray⟩ := ⟨_, rfl⟩
  have q1 : decV (decide (a / 9223372036854775808 = 1)) (numF a sc) sc = .agg #[.bool r1, .string s1, .int .i64 (sc : Int)] := by rw [hr1, hs1]; rfl
  rw [q1] at Q1
  have Q2 := fun W : World => refPart_bad b hb hf2 (sc : Int) W
  rw [part_bad (by rw [e1]; decide), part_bad (by rw [e2]; decide), e1] at P1
  unfold zeroD at P1
  clear hx e1 e2 ha hb hf hf2 hr1 hs1 q1
  have u1 : ¬ (sc : Int) < 0 := by omega
  have u2 : ¬ 40 < (sc : Int) := by omega
  go_enter Tryz.func3, Tryz.ntmps3
  go_wp2_with fail
  refine (HK _ (hg.below B0)).mono ?_
  rintro e w1 ⟨rfl, hb⟩
  have c0 : w1.cell? ⟨w.heap.size, 0, none⟩ = some (.int .u64 (a : Int)) := (hb.cell (p := ⟨w.heap.size, 0, none⟩) (by simp)).trans (by simp)
  have c1 : w1.cell? ⟨w.heap.size, 1, none⟩ = some (.int .u64 (b : Int)) := (hb.cell (p := ⟨w.heap.size, 1, none⟩) (by simp)).trans (by simp)
  have B1 := B0.trans (hb.mono B0.size)
  have BB1 : Below (w.heap.size + 1) (w.alloc (.cells #[.int .u64 (a : Int), .int .u64 (b : Int)] 24)) w1 := BB.trans (hb.mono (by simp))
  have hz1 : w.heap.size + 1 ≤ w1.heap.size := by have := BB1.size; rw [World.size_alloc] at this; exact this
  clear B0 BB hb HK
  go_wp2_with fail
  refine (H5 _).mono ?_
  rintro e w2 ⟨rfl, hb⟩
  have B2 := B1.trans (hb.mono B1.size)
  have BB2 := BB1.trans (hb.mono hz1)
  have hz2 := Nat.le_trans hz1 hb.size
  clear B1 BB1 hz1 hb c0 c1 H5
  go_wp2_with fail
  refine (P1 _ (hg.below B2)).mono ?_
  rintro e w3 ⟨rfl, hb⟩
  have B3 := B2.trans (hb.mono B2.size)
  have BB3 := BB2.trans (hb.mono hz2)
  have hz3 := Nat.le_trans hz2 hb.size
  clear B2 BB2 hz2 hb P1
  have B4 := ((B3.alloc B3.size (.cells #[.bool false, .string ⟨#[]⟩, .int .i64 0] 27)).alloc (by have := B3.size; simp; omega) (.cells #[.bool false, .string ⟨#[]⟩, .int .i64 0] 27)).alloc (by have := B3.size; simp; omega) (.cells #[.bool false, .string ⟨#[]⟩, .int .i64 0] 27)
  have BB4 := ((BB3.alloc hz3 (.cells #[.bool false, .string ⟨#[]⟩, .int .i64 0] 27)).alloc (by simp; omega) (.cells #[.bool false, .string ⟨#[]⟩, .int .i64 0] 27)).alloc (by simp; omega) (.cells #[.bool false, .string ⟨#[]⟩, .int .i64 0] 27)
  have hz4 : w.heap.size + 1 ≤ (((w3.alloc (.cells #[.bool false, .string ⟨#[]⟩, .int .i64 0] 27)).alloc (.cells #[.bool false, .string ⟨#[]⟩, .int .i64 0] 27)).alloc (.cells #[.bool false, .string ⟨#[]⟩, .int .i64 0] 27)).heap.size := by simp; omega
  have X5 := ((Box.made w3 false ⟨#[]⟩ 0 27).alloc (.cells #[.bool false, .string ⟨#[]⟩, .int .i64 0] 27)).alloc (.cells #[.bool false, .string ⟨#[]⟩, .int .i64 0] 27)
  have X6 := (Box.made (w3.alloc (.cells #[.bool false, .string ⟨#[]⟩, .int .i64 0] 27)) false ⟨#[]⟩ 0 27).alloc (.cells #[.bool false, .string ⟨#[]⟩, .int .i64 0] 27)
  have X8 := Box.made ((w3.alloc (.cells #[.bool false, .string ⟨#[]⟩, .int .i64 0] 27)).alloc (.cells #[.bool false, .string ⟨#[]⟩, .int .i64 0] 27)) false ⟨#[]⟩ 0 27
  rw [World.size_alloc] at X6
  rw [World.size_alloc, World.size_alloc] at X8
  have c0 := (BB4.cell (p := ⟨w.heap.size, 0, none⟩) (by simp)).trans (show (w.alloc (.cells #[.int .u64 (a : Int), .int .u64 (b : Int)] 24)).cell? ⟨w.heap.size, 0, none⟩ = some (.int .u64 (a : Int)) by simp)
  have c1 := (BB4.cell (p := ⟨w.heap.size, 1, none⟩) (by simp)).trans (show (w.alloc (.cells #[.int .u64 (a : Int), .int .u64 (b : Int)] 24)).cell? ⟨w.heap.size, 1, none⟩ = some (.int .u64 (b : Int)) by simp)
  clear B3 BB3 hz3
  go_wp2_with fail
  refine (Q1 _).mono ?_
  rintro e w5 ⟨rfl, hb⟩
  have B5 := (B4.trans (hb.mono B4.size)).alloc (Nat.le_trans B4.size hb.size) (.cells #[.bool r1, .string s1, .int .i64 (sc : Int)] 27)
  have BB5 := (BB4.trans (hb.mono hz4)).alloc (Nat.le_trans hz4 hb.size) (.cells #[.bool r1, .string s1, .int .i64 (sc : Int)] 27)
  have hz5 : w.heap.size + 1 ≤ (w5.alloc (.cells #[.bool r1, .string s1, .int .i64 (sc : Int)] 27)).heap.size := by have := Nat.le_trans hz4 hb.size; simp; omega
  have Y5 := (X5.below hb).alloc (.cells #[.bool r1, .string s1, .int .i64 (sc : Int)] 27)
  have Y6 := (X6.below hb).alloc (.cells #[.bool r1, .string s1, .int .i64 (sc : Int)] 27)
  have Y8 := (X8.below hb).alloc (.cells #[.bool r1, .string s1, .int .i64 (sc : Int)] 27)
  have Y9 := Box.made w5 r1 s1 (sc : Int) 27
  clear c0 c1
  have c0 := (BB5.cell (p := ⟨w.heap.size, 0, none⟩) (by simp)).trans (show (w.alloc (.cells #[.int .u64 (a : Int), .int .u64 (b : Int)] 24)).cell? ⟨w.heap.size, 0, none⟩ = some (.int .u64 (a : Int)) by simp)
  have c1 := (BB5.cell (p := ⟨w.heap.size, 1, none⟩) (by simp)).trans (show (w.alloc (.cells #[.int .u64 (a : Int), .int .u64 (b : Int)] 24)).cell? ⟨w.heap.size, 1, none⟩ = some (.int .u64 (b : Int)) by simp)
  clear X5 X6 X8 B4 BB4 hz4 hb Q1
  go_wp2_with fail
  refine (Q2 _).mono ?_
  rintro e w6 ⟨rfl, hb⟩
  have B6 := (B5.trans (hb.mono B5.size)).alloc (Nat.le_trans B5.size hb.size) (.cells #[.bool false, .string ⟨#[]⟩, .int .i64 0] 27)
  have X5 := (Y5.below hb).alloc (.cells #[.bool false, .string ⟨#[]⟩, .int .i64 0] 27)
  have X6 := (Y6.below hb).alloc (.cells #[.bool false, .string ⟨#[]⟩, .int .i64 0] 27)
  have X8 := (Y8.below hb).alloc (.cells #[.bool false, .string ⟨#[]⟩, .int .i64 0] 27)
  have X9 := (Y9.below hb).alloc (.cells #[.bool false, .string ⟨#[]⟩, .int .i64 0] 27)
  clear Y5 Y6 Y8 Y9 B5 BB5 hz5 hb Q2 c0 c1
  obtain ⟨j0, j1, j2, _⟩ := X5
  obtain ⟨k0, k1, k2, _⟩ := X6
  obtain ⟨l0, l1, l2, _⟩ := X8
  obtain ⟨m0, m1, m2, _⟩ := X9
  go_wp2_with fail
  refine bodyPost_ret (v := .bool true) ?_ rfl ⟨rfl, B6⟩
  simp [results, Tryz.results3, go_sem]
set_option maxRecDepth 100000 in
set_option maxHeartbeats 4000000 in
theorem parts_good_good (a b : Nat) (ha : a < 18446744073709551616) (hb : b < 18446744073709551616) (hf : finW a = true) (hf2 : finW b = true) (sc : Nat) (hsc : sc ≤ 40) (w : World) (hg : Glob w) : Calls Tryz.prog 3 #[.agg #[.int .u64 (a : Int), .int .u64 (b : Int)], .int .i64 (sc : Int)] w fun e w' => e = .returned (.bool true) ∧ Below w.heap.size w w' := by
  have HK := fun (w : World) (hg : Glob w) => wakes_yes hg
  have H5 := number_any (a : Int) (b : Int)
  rw [Int.toNat_natCast, Int.toNat_natCast] at H5
  have B0 : Below w.heap.size w (w.alloc (.cells #[.int .u64 (a : Int), .int .u64 (b : Int)] 24)) := (Below.refl _ _).alloc (Nat.le_refl _) _
  have BB : Below (w.heap.size + 1) (w.alloc (.cells #[.int .u64 (a : Int), .int .u64 (b : Int)] 24)) (w.alloc (.cells #[.int .u64 (a : Int), .int .u64 (b : Int)] 24)) := Below.refl _ _
  have P1 := fun (W : World) (h : Glob W) => Parts_any a b ha hb sc W h.pow
  have hx : ¬ ((sc : Int) < 0 ∨ 40 < (sc : Int)) := by omega
  have e1 : errP a b sc = 0 := by unfold errP; rw [if_neg hx, hf, hf2]; rfl
  have e2 : errP b a sc = 0 := by unfold errP; rw [if_neg hx, hf, hf2]; rfl
  have Q1 := fun W : World => refPart_good a ha hf sc hsc W
  obtain ⟨r1, hr1⟩ : ∃ r, r = (decide (a / 9223372036854775808 = 1) && decide (numF a sc ≠ 0)) := ⟨_, rfl⟩
  obtain ⟨s1, hs1⟩ : ∃ s : ByteArray, s = ⟨(Lib.decDigits (numF a sc)).toArray⟩ := ⟨_, rfl⟩
  have q1 : decV (decide (a / 9223372036854775808 = 1)) (numF a sc) sc = .agg #[.bool r1, .string s1, .int .i64 (sc : Int)] := by rw [hr1, hs1]; rfl
  rw [q1] at Q1
  have Q2 := fun W : World => refPart_good b hb hf2 sc hsc W
  obtain ⟨r2, hr2⟩ : ∃ r, r = (decide (b / 9223372036854775808 = 1) && decide (numF b sc ≠ 0)) := ⟨_, rfl⟩
  obtain ⟨s2, hs2⟩ : ∃ s : ByteArray, s = ⟨(Lib.decDigits (numF b sc)).toArray⟩ := ⟨_, rfl⟩
  have q2 : decV (decide (b / 9223372036854775808 = 1)) (numF b sc) sc = .agg #[.bool r2, .string s2, .int .i64 (sc : Int)] := by rw [hr2, hs2]; rfl
  rw [q2] at Q2
  rw [part_good e1, part_good e2, e1, Int.toNat_natCast, q1, q2] at P1
  have R1 := run_eq_dec r1 s1 (sc : Int)
  have R2 := run_eq_dec r2 s2 (sc : Int)
  clear hx e1 e2 ha hb hf hf2 hr1 hs1 q1 hr2 hs2 q2
  have u1 : ¬ (sc : Int) < 0 := by omega
  have u2 : ¬ 40 < (sc : Int) := by omega
  go_enter Tryz.func3, Tryz.ntmps3
  go_wp2_with fail
  refine (HK _ (hg.below B0)).mono ?_
  rintro e w1 ⟨rfl, hb⟩
  have c0 : w1.cell? ⟨w.heap.size, 0, none⟩ = some (.int .u64 (a : Int)) := (hb.cell (p := ⟨w.heap.size, 0, none⟩) (by simp)).trans (by simp)
  have c1 : w1.cell? ⟨w.heap.size, 1, none⟩ = some (.int .u64 (b : Int)) := (hb.cell (p := ⟨w.heap.size, 1, none⟩) (by simp)).trans (by simp)
  have B1 := B0.trans (hb.mono B0.size)
  have BB1 : Below (w.heap.size + 1) (w.alloc (.cells #[.int .u64 (a : Int), .int .u64 (b : Int)] 24)) w1 := BB.trans (hb.mono (by simp))
  have hz1 : w.heap.size + 1 ≤ w1.heap.size := by have := BB1.size; rw [World.size_alloc] at this; exact this
  clear B0 BB hb HK
  go_wp2_with fail
  refine (H5 _).mono ?_
  rintro e w2 ⟨rfl, hb⟩
  have B2 := B1.trans (hb.mono B1.size)
  have BB2 := BB1.trans (hb.mono hz1)
  have hz2 := Nat.le_trans hz1 hb.size
  clear B1 BB1 hz1 hb c0 c1 H5
  go_wp2_with fail
  refine (P1 _ (hg.below B2)).mono ?_
  rintro e w3 ⟨rfl, hb⟩
  have B3 := B2.trans (hb.mono B2.size)
  have BB3 := BB2.trans (hb.mono hz2)
  have hz3 := Nat.le_trans hz2 hb.size
  clear B2 BB2 hz2 hb P1
  have B4 := ((B3.alloc B3.size (.cells #[.bool r1, .string s1, .int .i64 (sc : Int)] 27)).alloc (by have := B3.size; simp; omega) (.cells #[.bool r2, .string s2, .int .i64 (sc : Int)] 27)).alloc (by have := B3.size; simp; omega) (.cells #[.bool false, .string ⟨#[]⟩, .int .i64 0] 27)
  have BB4 := ((BB3.alloc hz3 (.cells #[.bool r1, .string s1, .int .i64 (sc : Int)] 27)).alloc (by simp; omega) (.cells #[.bool r2, .string s2, .int .i64 (sc : Int)] 27)).alloc (by simp; omega) (.cells #[.bool false, .string ⟨#[]⟩, .int .i64 0] 27)
  have hz4 : w.heap.size + 1 ≤ (((w3.alloc (.cells #[.bool r1, .string s1, .int .i64 (sc : Int)] 27)).alloc (.cells #[.bool r2, .string s2, .int .i64 (sc : Int)] 27)).alloc (.cells #[.bool false, .string ⟨#[]⟩, .int .i64 0] 27)).heap.size := by simp; omega
  have X5 := ((Box.made w3 r1 s1 (sc : Int) 27).alloc (.cells #[.bool r2, .string s2, .int .i64 (sc : Int)] 27)).alloc (.cells #[.bool false, .string ⟨#[]⟩, .int .i64 0] 27)
  have X6 := (Box.made (w3.alloc (.cells #[.bool r1, .string s1, .int .i64 (sc : Int)] 27)) r2 s2 (sc : Int) 27).alloc (.cells #[.bool false, .string ⟨#[]⟩, .int .i64 0] 27)
  have X8 := Box.made ((w3.alloc (.cells #[.bool r1, .string s1, .int .i64 (sc : Int)] 27)).alloc (.cells #[.bool r2, .string s2, .int .i64 (sc : Int)] 27)) false ⟨#[]⟩ 0 27
  rw [World.size_alloc] at X6
  rw [World.size_alloc, World.size_alloc] at X8
  have c0 := (BB4.cell (p := ⟨w.heap.size, 0, none⟩) (by simp)).trans (show (w.alloc (.cells #[.int .u64 (a : Int), .int .u64 (b : Int)] 24)).cell? ⟨w.heap.size, 0, none⟩ = some (.int .u64 (a : Int)) by simp)
  have c1 := (BB4.cell (p := ⟨w.heap.size, 1, none⟩) (by simp)).trans (show (w.alloc (.cells #[.int .u64 (a : Int), .int .u64 (b : Int)] 24)).cell? ⟨w.heap.size, 1, none⟩ = some (.int .u64 (b : Int)) by simp)
  clear B3 BB3 hz3
  go_wp2_with fail
  refine (Q1 _).mono ?_
  rintro e w5 ⟨rfl, hb⟩
  have B5 := (B4.trans (hb.mono B4.size)).alloc (Nat.le_trans B4.size hb.size) (.cells #[.bool r1, .string s1, .int .i64 (sc : Int)] 27)
  have BB5 := (BB4.trans (hb.mono hz4)).alloc (Nat.le_trans hz4 hb.size) (.cells #[.bool r1, .string s1, .int .i64 (sc : Int)] 27)
  have hz5 : w.heap.size + 1 ≤ (w5.alloc (.cells #[.bool r1, .string s1, .int .i64 (sc : Int)] 27)).heap.size := by have := Nat.le_trans hz4 hb.size; simp; omega
  have Y5 := (X5.below hb).alloc (.cells #[.bool r1, .string s1, .int .i64 (sc : Int)] 27)
  have Y6 := (X6.below hb).alloc (.cells #[.bool r1, .string s1, .int .i64 (sc : Int)] 27)
  have Y8 := (X8.below hb).alloc (.cells #[.bool r1, .string s1, .int .i64 (sc : Int)] 27)
  have Y9 := Box.made w5 r1 s1 (sc : Int) 27
  clear c0 c1
  have c0 := (BB5.cell (p := ⟨w.heap.size, 0, none⟩) (by simp)).trans (show (w.alloc (.cells #[.int .u64 (a : Int), .int .u64 (b : Int)] 24)).cell? ⟨w.heap.size, 0, none⟩ = some (.int .u64 (a : Int)) by simp)
  have c1 := (BB5.cell (p := ⟨w.heap.size, 1, none⟩) (by simp)).trans (show (w.alloc (.cells #[.int .u64 (a : Int), .int .u64 (b : Int)] 24)).cell? ⟨w.heap.size, 1, none⟩ = some (.int .u64 (b : Int)) by simp)
  clear X5 X6 X8 B4 BB4 hz4 hb Q1
  go_wp2_with fail
  refine (Q2 _).mono ?_
  rintro e w6 ⟨rfl, hb⟩
  have B6 := (B5.trans (hb.mono B5.size)).alloc (Nat.le_trans B5.size hb.size) (.cells #[.bool r2, .string s2, .int .i64 (sc : Int)] 27)
  have X5 := (Y5.below hb).alloc (.cells #[.bool r2, .string s2, .int .i64 (sc : Int)] 27)
  have X6 := (Y6.below hb).alloc (.cells #[.bool r2, .string s2, .int .i64 (sc : Int)] 27)
  have X8 := (Y8.below hb).alloc (.cells #[.bool r2, .string s2, .int .i64 (sc : Int)] 27)
  have X9 := (Y9.below hb).alloc (.cells #[.bool r2, .string s2, .int .i64 (sc : Int)] 27)
  clear Y5 Y6 Y8 Y9 B5 BB5 hz5 hb Q2 c0 c1
  obtain ⟨j0, j1, j2, _⟩ := X5
  obtain ⟨k0, k1, k2, _⟩ := X6
  obtain ⟨l0, l1, l2, _⟩ := X8
  obtain ⟨m0, m1, m2, _⟩ := X9
  go_wp2_with fail
  refine bodyPost_ret (v := .bool true) ?_ rfl ⟨rfl, B6⟩
  simp [results, Tryz.results3, go_sem]
theorem partsLaw_yes (x y : Int) (hx : (Lit.int .u64 x).wf = true) (hy : (Lit.int .u64 y).wf = true) (d : Int) (_ : -9223372036854775808 ≤ d ∧ d ≤ 9223372036854775807) (w : World) (hg : Glob w) : Calls Tryz.prog 3 #[.agg #[.int .u64 x, .int .u64 y], .int .i64 d] w fun e w' => e = .returned (.bool true) ∧ Below w.heap.size w w' := by
  have h1 : IntKind.u64.max = 18446744073709551615 := rfl
  have h2 : IntKind.u64.min = 0 := rfl
  obtain ⟨a, rfl⟩ : ∃ a : Nat, x = a := ⟨x.toNat, by
    have h := hx
    simp [Lit.wf] at h
    omega⟩
  obtain ⟨b, rfl⟩ : ∃ b : Nat, y = b := ⟨y.toNat, by
    have h := hy
    simp [Lit.wf] at h
    omega⟩
  have ha : a < 18446744073709551616 := by
    have h := hx
    simp [Lit.wf] at h
    omega
  have hb : b < 18446744073709551616 := by
    have h := hy
    simp [Lit.wf] at h
    omega
  by_cases hd : d < 0 ∨ 40 < d
  · exact parts_scale a b ha hb d hd w hg
  · obtain ⟨sc, rfl⟩ : ∃ sc : Nat, d = sc := ⟨d.toNat, by omega⟩
    cases hf : finW a with
    | false =>
      cases hf2 : finW b with
      | false => exact parts_bad_bad a b ha hb hf hf2 sc (by omega) w hg
      | true => exact parts_bad_good a b ha hb hf hf2 sc (by omega) w hg
    | true =>
      cases hf2 : finW b with
      | false => exact parts_good_bad a b ha hb hf hf2 sc (by omega) w hg
      | true => exact parts_good_good a b ha hb hf hf2 sc (by omega) w hg
end Go.Proofs.YtpfldlbdmhhjdaaGreatDoor
