/-
  Contracts of compose's styles and of the reference's. Condition: the text is short enough to be in memory.
-/
import Derived.Test.YtpcgcghhddnifaaGreatDoorCb
set_option linter.unusedVariables false
namespace Go.Proofs.YtpcgcghhddnifaaGreatDoor
open Go.RowKit
def longL : List UInt8 := [108, 111, 110, 103]
def isWidthB (wd : ByteArray) : Bool := (wd.toList == [108, 111, 110, 103]) || ((wd.toList == [115, 104, 111, 114, 116]) || (wd.toList == [110, 97, 114, 114, 111, 119]))
def rightB (wd nm : ByteArray) : Bool := isWidthB wd && isNameB nm
set_option maxHeartbeats 4000000 in
set_option maxRecDepth 100000 in
theorem rightUnit_any (wd nm : ByteArray) (hs : nm.size ≤ 281474976710656) (w : World) : Calls Tryz.prog 42 #[.agg #[.string wd, .string nm]] w fun e w' => e = .returned (.bool (rightB wd nm)) ∧ Below w.heap.size w w' := by
  have H := isName_any nm hs
  unfold rightB isWidthB
  generalize isNameB nm = q at *
  cases ha : (wd.toList == [108, 111, 110, 103]) with
  | true =>
    go_enter Tryz.func42, Tryz.ntmps42
    go_wp2_with (go_at_call 27; refine (H _).mono ?_; rintro e w1 ⟨rfl, rfl⟩)
    refine bodyPost_ret (v := .bool q) ?_ rfl ⟨by simp, (Below.refl _ _).alloc (Nat.le_refl _) _⟩
    simp [results, Tryz.results42, go_sem]
  | false =>
    cases hb : (wd.toList == [115, 104, 111, 114, 116]) with
    | true =>
      go_enter Tryz.func42, Tryz.ntmps42
      go_wp2_with (go_at_call 27; refine (H _).mono ?_; rintro e w1 ⟨rfl, rfl⟩)
      refine bodyPost_ret (v := .bool q) ?_ rfl ⟨by simp, (Below.refl _ _).alloc (Nat.le_refl _) _⟩
      simp [results, Tryz.results42, go_sem]
    | false =>
      cases hc : (wd.toList == [110, 97, 114, 114, 111, 119]) with
      | true =>
        go_enter Tryz.func42, Tryz.ntmps42
        go_wp2_with (go_at_call 27; refine (H _).mono ?_; rintro e w1 ⟨rfl, rfl⟩)
        refine bodyPost_ret (v := .bool q) ?_ rfl ⟨by simp, (Below.refl _ _).alloc (Nat.le_refl _) _⟩
        simp [results, Tryz.results42, go_sem]
      | false =>
        go_enter Tryz.func42, Tryz.ntmps42
        go_wp2_with (go_at_call 27; refine (H _).mono ?_; rintro e w1 ⟨rfl, rfl⟩)
        refine bodyPost_ret (v := .bool false) ?_ rfl ⟨by simp, (Below.refl _ _).alloc (Nat.le_refl _) _⟩
        simp [results, Tryz.results42, go_sem]
set_option maxHeartbeats 4000000 in
set_option maxRecDepth 100000 in
theorem refRight_any (wd nm : ByteArray) (hs : nm.size ≤ 281474976710656) (w : World) : Calls Tryz.prog 43 #[.agg #[.string wd, .string nm]] w fun e w' => e = .returned (.bool (rightB wd nm)) ∧ Below w.heap.size w w' := by
  have H := refIsName_any nm hs
  unfold rightB isWidthB
  generalize isNameB nm = q at *
  cases ha : (wd.toList == [108, 111, 110, 103]) with
  | true =>
    go_enter Tryz.func43, Tryz.ntmps43
    go_wp2_with (go_at_call 11; refine (H _).mono ?_; rintro e w1 ⟨rfl, rfl⟩)
    refine bodyPost_ret (v := .bool q) ?_ rfl ⟨by simp, (Below.refl _ _).alloc (Nat.le_refl _) _⟩
    simp [results, Tryz.results43, go_sem]
  | false =>
    cases hb : (wd.toList == [115, 104, 111, 114, 116]) with
    | true =>
      go_enter Tryz.func43, Tryz.ntmps43
      go_wp2_with (go_at_call 11; refine (H _).mono ?_; rintro e w1 ⟨rfl, rfl⟩)
      refine bodyPost_ret (v := .bool q) ?_ rfl ⟨by simp, (Below.refl _ _).alloc (Nat.le_refl _) _⟩
      simp [results, Tryz.results43, go_sem]
    | false =>
      cases hc : (wd.toList == [110, 97, 114, 114, 111, 119]) with
      | true =>
        go_enter Tryz.func43, Tryz.ntmps43
        go_wp2_with (go_at_call 11; refine (H _).mono ?_; rintro e w1 ⟨rfl, rfl⟩)
        refine bodyPost_ret (v := .bool q) ?_ rfl ⟨by simp, (Below.refl _ _).alloc (Nat.le_refl _) _⟩
        simp [results, Tryz.results43, go_sem]
      | false =>
        go_enter Tryz.func43, Tryz.ntmps43
        go_wp2_with (go_at_call 11; refine (H _).mono ?_; rintro e w1 ⟨rfl, rfl⟩)
        refine bodyPost_ret (v := .bool false) ?_ rfl ⟨by simp, (Below.refl _ _).alloc (Nat.le_refl _) _⟩
        simp [results, Tryz.results43, go_sem]
set_option maxHeartbeats 4000000 in
set_option maxRecDepth 100000 in
theorem list_empty (s : ByteArray) (h : s.toList.isEmpty = true) (w : World) : Calls Tryz.prog 20 #[.string s] w fun e w' => e = .returned (.tuple #[.string ⟨#[115, 116, 97, 110, 100, 97, 114, 100]⟩, .int .i64 0]) ∧ w' = w := by
  go_enter Tryz.func20, Tryz.ntmps20
  go_wp2_with fail
  refine bodyPost_ret (v := .tuple #[.string ⟨#[115, 116, 97, 110, 100, 97, 114, 100]⟩, .int .i64 0]) ?_ rfl ⟨rfl, rfl⟩
  simp [results, Tryz.results20, go_sem]
set_option maxHeartbeats 4000000 in
set_option maxRecDepth 100000 in
theorem list_yes (s : ByteArray) (h : s.toList.isEmpty = false) (H : ∀ w : World, Calls Tryz.prog 27 #[.string s] w fun e w' => e = .returned (.bool true) ∧ w' = w) (w : World) : Calls Tryz.prog 20 #[.string s] w fun e w' => e = .returned (.tuple #[.string s, .int .i64 0]) ∧ w' = w := by
  go_enter Tryz.func20, Tryz.ntmps20
  go_wp2_with (go_at_call 27; refine (H _).mono ?_; rintro e w1 ⟨rfl, rfl⟩)
  refine bodyPost_ret (v := .tuple #[.string s, .int .i64 0]) ?_ rfl ⟨rfl, rfl⟩
  simp [results, Tryz.results20, go_sem]
set_option maxHeartbeats 4000000 in
set_option maxRecDepth 100000 in
theorem list_no (s : ByteArray) (h : s.toList.isEmpty = false) (H : ∀ w : World, Calls Tryz.prog 27 #[.string s] w fun e w' => e = .returned (.bool false) ∧ w' = w) (w : World) : Calls Tryz.prog 20 #[.string s] w fun e w' => e = .returned (.tuple #[.string ⟨#[]⟩, .int .i64 2]) ∧ w' = w := by
  go_enter Tryz.func20, Tryz.ntmps20
  go_wp2_with (go_at_call 27; refine (H _).mono ?_; rintro e w1 ⟨rfl, rfl⟩)
  refine bodyPost_ret (v := .tuple #[.string ⟨#[]⟩, .int .i64 2]) ?_ rfl ⟨rfl, rfl⟩
  simp [results, Tryz.results20, go_sem]
set_option maxHeartbeats 4000000 in
set_option maxRecDepth 100000 in
theorem unit_ff (s k r : ByteArray) (HC : ∀ w : World, Calls Tryz.prog 41 #[.string s, .string ⟨#[47]⟩] w fun e w' => e = .returned (.tuple #[.string k, .string r, .bool false]) ∧ Below w.heap.size w w') (HR : ∀ w : World, Calls Tryz.prog 42 #[.agg #[.string ⟨#[108, 111, 110, 103]⟩, .string s]] w fun e w' => e = .returned (.bool false) ∧ Below w.heap.size w w') (w : World) :
    Calls Tryz.prog 21 #[.string s] w fun e w' => e = .returned (.tuple #[.agg #[.string ⟨#[]⟩, .string ⟨#[]⟩], .int .i64 2]) ∧ Below w.heap.size w w' := by
  have R0 := (Blk2.new w (.string ⟨#[]⟩) (.string ⟨#[]⟩) 48).alloc #[.string ⟨#[108, 111, 110, 103]⟩, .string s] 48
  have K0 := Blk2.new (w.alloc (.cells #[.string ⟨#[]⟩, .string ⟨#[]⟩] 48)) (.string ⟨#[108, 111, 110, 103]⟩) (.string s) 48
  simp only [World.size_alloc] at K0
  have B0 : Below w.heap.size w ((w.alloc (.cells #[.string ⟨#[]⟩, .string ⟨#[]⟩] 48)).alloc (.cells #[.string ⟨#[108, 111, 110, 103]⟩, .string s] 48)) := ((Below.refl _ _).alloc (Nat.le_refl _) _).alloc (by simp) _
  go_enter Tryz.func21, Tryz.ntmps21
  go_wp2_with fail
  generalize (w.alloc (.cells #[.string ⟨#[]⟩, .string ⟨#[]⟩] 48)).alloc (.cells #[.string ⟨#[108, 111, 110, 103]⟩, .string s] 48) = w0 at *
  refine (HC _).mono ?_
  rintro e w1 ⟨rfl, hb⟩
  have R1 := R0.below hb
  have K1 := K0.below hb
  have B1 := B0.trans (hb.mono B0.size)
  clear R0 K0 B0 hb HC
  have R := R1
  have K := K1
  have B2 := B1
  clear B1
  obtain ⟨rl, r0, r1, rf⟩ := id R
  obtain ⟨kl, k0, k1, kf⟩ := id K
  go_wp2_with fail
  clear K1 R1
  refine (HR _).mono ?_
  rintro e w3 ⟨rfl, hb3⟩
  have R3 := R.below hb3
  have K3 := K.below hb3
  have B3 := B2.trans (hb3.mono B2.size)
  clear HR R K B2 hb3 rl r0 r1 rf kl k0 k1 kf
  obtain ⟨rl, r0, r1, rf⟩ := id R3
  obtain ⟨kl, k0, k1, kf⟩ := id K3
  go_wp2_with fail
  have P := R3.put (.string ⟨#[]⟩) (.string ⟨#[]⟩)
  have B9 := put_below B3 (Nat.le_refl _) (.string ⟨#[]⟩) (.string ⟨#[]⟩)
  clear B3 R3 K3
  generalize World.setCell _ ⟨w.heap.size, 1, none⟩ _ = w9 at *
  obtain ⟨_, p0, p1, _⟩ := P
  refine bodyPost_ret (v := .tuple #[.agg #[.string ⟨#[]⟩, .string ⟨#[]⟩], .int .i64 2]) ?_ rfl ⟨rfl, B9⟩
  simp [results, Tryz.results21, go_sem, p0, p1]
set_option maxHeartbeats 4000000 in
set_option maxRecDepth 100000 in
theorem refUnit_ff (s k r : ByteArray) (HC : ∀ w : World, Calls Tryz.prog 41 #[.string s, .string ⟨#[47]⟩] w fun e w' => e = .returned (.tuple #[.string k, .string r, .bool false]) ∧ Below w.heap.size w w') (HR : ∀ w : World, Calls Tryz.prog 43 #[.agg #[.string ⟨#[108, 111, 110, 103]⟩, .string s]] w fun e w' => e = .returned (.bool false) ∧ Below w.heap.size w w') (w : World) :
    Calls Tryz.prog 22 #[.string s] w fun e w' => e = .returned (.tuple #[.agg #[.string ⟨#[108, 111, 110, 103]⟩, .string s], .bool false]) ∧ Below w.heap.size w w' := by
  have R0 := (Blk2.new w (.string ⟨#[]⟩) (.string ⟨#[]⟩) 48).alloc #[.string ⟨#[108, 111, 110, 103]⟩, .string s] 48
  have K0 := Blk2.new (w.alloc (.cells #[.string ⟨#[]⟩, .string ⟨#[]⟩] 48)) (.string ⟨#[108, 111, 110, 103]⟩) (.string s) 48
  simp only [World.size_alloc] at K0
  have B0 : Below w.heap.size w ((w.alloc (.cells #[.string ⟨#[]⟩, .string ⟨#[]⟩] 48)).alloc (.cells #[.string ⟨#[108, 111, 110, 103]⟩, .string s] 48)) := ((Below.refl _ _).alloc (Nat.le_refl _) _).alloc (by simp) _
  go_enter Tryz.func22, Tryz.ntmps22
  go_wp2_with fail
  generalize (w.alloc (.cells #[.string ⟨#[]⟩, .string ⟨#[]⟩] 48)).alloc (.cells #[.string ⟨#[108, 111, 110, 103]⟩, .string s] 48) = w0 at *
  refine (HC _).mono ?_
  rintro e w1 ⟨rfl, hb⟩
  have R1 := R0.below hb
  have K1 := K0.below hb
  have B1 := B0.trans (hb.mono B0.size)
  clear R0 K0 B0 hb HC
  have R := R1
  have K := K1
  have B2 := B1
  clear B1
  obtain ⟨rl, r0, r1, rf⟩ := id R
  obtain ⟨kl, k0, k1, kf⟩ := id K
  go_wp2_with fail
  clear K1 R1
  have RD := Blk2.drew R
  have KD := Blk2.drew K
  have BD := blw_drew B2
  go_region_with (go_at_call 43; refine (HR _).mono ?_; rintro e w3 ⟨rfl, hb3⟩; have R3 := RD.below hb3; have K3 := KD.below hb3; have B3 := BD.trans (hb3.mono BD.size); obtain ⟨rl3, r30, r31, rf3⟩ := id R3; obtain ⟨kl3, k30, k31, kf3⟩ := id K3)
  all_goals go_wp2_with fail
  all_goals
    have P := R3.put (.string ⟨#[108, 111, 110, 103]⟩) (.string s)
    have B9 := put_below B3 (Nat.le_refl _) (.string ⟨#[108, 111, 110, 103]⟩) (.string s)
    clear B3 R3 K3
    generalize World.setCell _ ⟨w.heap.size, 1, none⟩ _ = w9 at *
    obtain ⟨_, p0, p1, _⟩ := P
    refine bodyPost_ret (v := .tuple #[.agg #[.string ⟨#[108, 111, 110, 103]⟩, .string s], .bool false]) ?_ rfl ⟨rfl, B9⟩
    simp [results, Tryz.results22, go_sem, p0, p1]
set_option maxHeartbeats 4000000 in
set_option maxRecDepth 100000 in
theorem unit_ft (s k r : ByteArray) (HC : ∀ w : World, Calls Tryz.prog 41 #[.string s, .string ⟨#[47]⟩] w fun e w' => e = .returned (.tuple #[.string k, .string r, .bool false]) ∧ Below w.heap.size w w') (HR : ∀ w : World, Calls Tryz.prog 42 #[.agg #[.string ⟨#[108, 111, 110, 103]⟩, .string s]] w fun e w' => e = .returned (.bool true) ∧ Below w.heap.size w w') (w : World) :
    Calls Tryz.prog 21 #[.string s] w fun e w' => e = .returned (.tuple #[.agg #[.string ⟨#[108, 111, 110, 103]⟩, .string s], .int .i64 0]) ∧ Below w.heap.size w w' := by
  have R0 := (Blk2.new w (.string ⟨#[]⟩) (.string ⟨#[]⟩) 48).alloc #[.string ⟨#[108, 111, 110, 103]⟩, .string s] 48
  have K0 := Blk2.new (w.alloc (.cells #[.string ⟨#[]⟩, .string ⟨#[]⟩] 48)) (.string ⟨#[108, 111, 110, 103]⟩) (.string s) 48
  simp only [World.size_alloc] at K0
  have B0 : Below w.heap.size w ((w.alloc (.cells #[.string ⟨#[]⟩, .string ⟨#[]⟩] 48)).alloc (.cells #[.string ⟨#[108, 111, 110, 103]⟩, .string s] 48)) := ((Below.refl _ _).alloc (Nat.le_refl _) _).alloc (by simp) _
  go_enter Tryz.func21, Tryz.ntmps21
  go_wp2_with fail
  generalize (w.alloc (.cells #[.string ⟨#[]⟩, .string ⟨#[]⟩] 48)).alloc (.cells #[.string ⟨#[108, 111, 110, 103]⟩, .string s] 48) = w0 at *
  refine (HC _).mono ?_
  rintro e w1 ⟨rfl, hb⟩
  have R1 := R0.below hb
  have K1 := K0.below hb
  have B1 := B0.trans (hb.mono B0.size)
  clear R0 K0 B0 hb HC
  have R := R1
  have K := K1
  have B2 := B1
  clear B1
  obtain ⟨rl, r0, r1, rf⟩ := id R
  obtain ⟨kl, k0, k1, kf⟩ := id K
  go_wp2_with fail
  clear K1 R1
  refine (HR _).mono ?_
  rintro e w3 ⟨rfl, hb3⟩
  have R3 := R.below hb3
  have K3 := K.below hb3
  have B3 := B2.trans (hb3.mono B2.size)
  clear HR R K B2 hb3 rl r0 r1 rf kl k0 k1 kf
  obtain ⟨rl, r0, r1, rf⟩ := id R3
  obtain ⟨kl, k0, k1, kf⟩ := id K3
  go_wp2_with fail
  have P := R3.put (.string ⟨#[108, 111, 110, 103]⟩) (.string s)
  have B9 := put_below B3 (Nat.le_refl _) (.string ⟨#[108, 111, 110, 103]⟩) (.string s)
  clear B3 R3 K3
  generalize World.setCell _ ⟨w.heap.size, 1, none⟩ _ = w9 at *
  obtain ⟨_, p0, p1, _⟩ := P
  refine bodyPost_ret (v := .tuple #[.agg #[.string ⟨#[108, 111, 110, 103]⟩, .string s], .int .i64 0]) ?_ rfl ⟨rfl, B9⟩
  simp [results, Tryz.results21, go_sem, p0, p1]
set_option maxHeartbeats 4000000 in
set_option maxRecDepth 100000 in
theorem refUnit_ft (s k r : ByteArray) (HC : ∀ w : World, Calls Tryz.prog 41 #[.string s, .string ⟨#[47]⟩] w fun e w' => e = .returned (.tuple #[.string k, .string r, .bool false]) ∧ Below w.heap.size w w') (HR : ∀ w : World, Calls Tryz.prog 43 #[.agg #[.string ⟨#[108, 111, 110, 103]⟩, .string s]] w fun e w' => e = .returned (.bool true) ∧ Below w.heap.size w w') (w : World) :
    Calls Tryz.prog 22 #[.string s] w fun e w' => e = .returned (.tuple #[.agg #[.string ⟨#[108, 111, 110, 103]⟩, .string s], .bool true]) ∧ Below w.heap.size w w' := by
  have R0 := (Blk2.new w (.string ⟨#[]⟩) (.string ⟨#[]⟩) 48).alloc #[.string ⟨#[108, 111, 110, 103]⟩, .string s] 48
  have K0 := Blk2.new (w.alloc (.cells #[.string ⟨#[]⟩, .string ⟨#[]⟩] 48)) (.string ⟨#[108, 111, 110, 103]⟩) (.string s) 48
  simp only [World.size_alloc] at K0
  have B0 : Below w.heap.size w ((w.alloc (.cells #[.string ⟨#[]⟩, .string ⟨#[]⟩] 48)).alloc (.cells #[.string ⟨#[108, 111, 110, 103]⟩, .string s] 48)) := ((Below.refl _ _).alloc (Nat.le_refl _) _).alloc (by simp) _
  go_enter Tryz.func22, Tryz.ntmps22
  go_wp2_with fail
  generalize (w.alloc (.cells #[.string ⟨#[]⟩, .string ⟨#[]⟩] 48)).alloc (.cells #[.string ⟨#[108, 111, 110, 103]⟩, .string s] 48) = w0 at *
  refine (HC _).mono ?_
  rintro e w1 ⟨rfl, hb⟩
  have R1 := R0.below hb
  have K1 := K0.below hb
  have B1 := B0.trans (hb.mono B0.size)
  clear R0 K0 B0 hb HC
  have R := R1
  have K := K1
  have B2 := B1
  clear B1
  obtain ⟨rl, r0, r1, rf⟩ := id R
  obtain ⟨kl, k0, k1, kf⟩ := id K
  go_wp2_with fail
  clear K1 R1
  have RD := Blk2.drew R
  have KD := Blk2.drew K
  have BD := blw_drew B2
  go_region_with (go_at_call 43; refine (HR _).mono ?_; rintro e w3 ⟨rfl, hb3⟩; have R3 := RD.below hb3; have K3 := KD.below hb3; have B3 := BD.trans (hb3.mono BD.size); obtain ⟨rl3, r30, r31, rf3⟩ := id R3; obtain ⟨kl3, k30, k31, kf3⟩ := id K3)
  all_goals go_wp2_with fail
  all_goals
    have P := R3.put (.string ⟨#[108, 111, 110, 103]⟩) (.string s)
    have B9 := put_below B3 (Nat.le_refl _) (.string ⟨#[108, 111, 110, 103]⟩) (.string s)
    clear B3 R3 K3
    generalize World.setCell _ ⟨w.heap.size, 1, none⟩ _ = w9 at *
    obtain ⟨_, p0, p1, _⟩ := P
    refine bodyPost_ret (v := .tuple #[.agg #[.string ⟨#[108, 111, 110, 103]⟩, .string s], .bool true]) ?_ rfl ⟨rfl, B9⟩
    simp [results, Tryz.results22, go_sem, p0, p1]
set_option maxHeartbeats 4000000 in
set_option maxRecDepth 100000 in
theorem unit_tf (s k r : ByteArray) (HC : ∀ w : World, Calls Tryz.prog 41 #[.string s, .string ⟨#[47]⟩] w fun e w' => e = .returned (.tuple #[.string k, .string r, .bool true]) ∧ Below w.heap.size w w') (HR : ∀ w : World, Calls Tryz.prog 42 #[.agg #[.string k, .string r]] w fun e w' => e = .returned (.bool false) ∧ Below w.heap.size w w') (w : World) :
    Calls Tryz.prog 21 #[.string s] w fun e w' => e = .returned (.tuple #[.agg #[.string ⟨#[]⟩, .string ⟨#[]⟩], .int .i64 2]) ∧ Below w.heap.size w w' := by
  have R0 := (Blk2.new w (.string ⟨#[]⟩) (.string ⟨#[]⟩) 48).alloc #[.string ⟨#[108, 111, 110, 103]⟩, .string s] 48
  have K0 := Blk2.new (w.alloc (.cells #[.string ⟨#[]⟩, .string ⟨#[]⟩] 48)) (.string ⟨#[108, 111, 110, 103]⟩) (.string s) 48
  simp only [World.size_alloc] at K0
  have B0 : Below w.heap.size w ((w.alloc (.cells #[.string ⟨#[]⟩, .string ⟨#[]⟩] 48)).alloc (.cells #[.string ⟨#[108, 111, 110, 103]⟩, .string s] 48)) := ((Below.refl _ _).alloc (Nat.le_refl _) _).alloc (by simp) _
  go_enter Tryz.func21, Tryz.ntmps21
  go_wp2_with fail
  generalize (w.alloc (.cells #[.string ⟨#[]⟩, .string ⟨#[]⟩] 48)).alloc (.cells #[.string ⟨#[108, 111, 110, 103]⟩, .string s] 48) = w0 at *
  refine (HC _).mono ?_
  rintro e w1 ⟨rfl, hb⟩
  have R1 := R0.below hb
  have K1 := K0.below hb
  have B1 := B0.trans (hb.mono B0.size)
  clear R0 K0 B0 hb HC
  have R := R1.belowB (Nat.lt_succ_self _) (put_below (Below.refl (w.heap.size + 1) w1) (Nat.le_refl _) (.string k) (.string r))
  have K := K1.put (.string k) (.string r)
  have B2 := put_below (C := w.heap.size + 1) B1 (Nat.le_succ _) (.string k) (.string r)
  clear B1
  obtain ⟨kl1, k10, k11, kf1⟩ := id K1
  obtain ⟨rl, r0, r1, rf⟩ := id R
  obtain ⟨kl, k0, k1, kf⟩ := id K
  go_wp2_with fail
  generalize (w1.setCell ⟨w.heap.size + 1, 0, none⟩ (.string k)).setCell ⟨w.heap.size + 1, 1, none⟩ (.string r) = w2 at *
  clear K1 R1 kl1 k10 k11 kf1
  refine (HR _).mono ?_
  rintro e w3 ⟨rfl, hb3⟩
  have R3 := R.below hb3
  have K3 := K.below hb3
  have B3 := B2.trans (hb3.mono B2.size)
  clear HR R K B2 hb3 rl r0 r1 rf kl k0 k1 kf
  obtain ⟨rl, r0, r1, rf⟩ := id R3
  obtain ⟨kl, k0, k1, kf⟩ := id K3
  go_wp2_with fail
  have P := R3.put (.string ⟨#[]⟩) (.string ⟨#[]⟩)
  have B9 := put_below B3 (Nat.le_refl _) (.string ⟨#[]⟩) (.string ⟨#[]⟩)
  clear B3 R3 K3
  generalize World.setCell _ ⟨w.heap.size, 1, none⟩ _ = w9 at *
  obtain ⟨_, p0, p1, _⟩ := P
  refine bodyPost_ret (v := .tuple #[.agg #[.string ⟨#[]⟩, .string ⟨#[]⟩], .int .i64 2]) ?_ rfl ⟨rfl, B9⟩
  simp [results, Tryz.results21, go_sem, p0, p1]
set_option maxHeartbeats 4000000 in
set_option maxRecDepth 100000 in
theorem refUnit_tf (s k r : ByteArray) (HC : ∀ w : World, Calls Tryz.prog 41 #[.string s, .string ⟨#[47]⟩] w fun e w' => e = .returned (.tuple #[.string k, .string r, .bool true]) ∧ Below w.heap.size w w') (HR : ∀ w : World, Calls Tryz.prog 43 #[.agg #[.string k, .string r]] w fun e w' => e = .returned (.bool false) ∧ Below w.heap.size w w') (w : World) :
    Calls Tryz.prog 22 #[.string s] w fun e w' => e = .returned (.tuple #[.agg #[.string k, .string r], .bool false]) ∧ Below w.heap.size w w' := by
  have R0 := (Blk2.new w (.string ⟨#[]⟩) (.string ⟨#[]⟩) 48).alloc #[.string ⟨#[108, 111, 110, 103]⟩, .string s] 48
  have K0 := Blk2.new (w.alloc (.cells #[.string ⟨#[]⟩, .string ⟨#[]⟩] 48)) (.string ⟨#[108, 111, 110, 103]⟩) (.string s) 48
  simp only [World.size_alloc] at K0
  have B0 : Below w.heap.size w ((w.alloc (.cells #[.string ⟨#[]⟩, .string ⟨#[]⟩] 48)).alloc (.cells #[.string ⟨#[108, 111, 110, 103]⟩, .string s] 48)) := ((Below.refl _ _).alloc (Nat.le_refl _) _).alloc (by simp) _
  go_enter Tryz.func22, Tryz.ntmps22
  go_wp2_with fail
  generalize (w.alloc (.cells #[.string ⟨#[]⟩, .string ⟨#[]⟩] 48)).alloc (.cells #[.string ⟨#[108, 111, 110, 103]⟩, .string s] 48) = w0 at *
  refine (HC _).mono ?_
  rintro e w1 ⟨rfl, hb⟩
  have R1 := R0.below hb
  have K1 := K0.below hb
  have B1 := B0.trans (hb.mono B0.size)
  clear R0 K0 B0 hb HC
  have R := R1.belowB (Nat.lt_succ_self _) (put_below (Below.refl (w.heap.size + 1) w1) (Nat.le_refl _) (.string k) (.string r))
  have K := K1.put (.string k) (.string r)
  have B2 := put_below (C := w.heap.size + 1) B1 (Nat.le_succ _) (.string k) (.string r)
  clear B1
  obtain ⟨kl1, k10, k11, kf1⟩ := id K1
  obtain ⟨rl, r0, r1, rf⟩ := id R
  obtain ⟨kl, k0, k1, kf⟩ := id K
  go_wp2_with fail
  generalize (w1.setCell ⟨w.heap.size + 1, 0, none⟩ (.string k)).setCell ⟨w.heap.size + 1, 1, none⟩ (.string r) = w2 at *
  clear K1 R1 kl1 k10 k11 kf1
  have RD := Blk2.drew R
  have KD := Blk2.drew K
  have BD := blw_drew B2
  go_region_with (go_at_call 43; refine (HR _).mono ?_; rintro e w3 ⟨rfl, hb3⟩; have R3 := RD.below hb3; have K3 := KD.below hb3; have B3 := BD.trans (hb3.mono BD.size); obtain ⟨rl3, r30, r31, rf3⟩ := id R3; obtain ⟨kl3, k30, k31, kf3⟩ := id K3)
  all_goals go_wp2_with fail
  all_goals
    have P := R3.put (.string k) (.string r)
    have B9 := put_below B3 (Nat.le_refl _) (.string k) (.string r)
    clear B3 R3 K3
    generalize World.setCell _ ⟨w.heap.size, 1, none⟩ _ = w9 at *
    obtain ⟨_, p0, p1, _⟩ := P
    refine bodyPost_ret (v := .tuple #[.agg #[.string k, .string r], .bool false]) ?_ rfl ⟨rfl, B9⟩
    simp [results, Tryz.results22, go_sem, p0, p1]
set_option maxHeartbeats 4000000 in
set_option maxRecDepth 100000 in
theorem unit_tt (s k r : ByteArray) (HC : ∀ w : World, Calls Tryz.prog 41 #[.string s, .string ⟨#[47]⟩] w fun e w' => e = .returned (.tuple #[.string k, .string r, .bool true]) ∧ Below w.heap.size w w') (HR : ∀ w : World, Calls Tryz.prog 42 #[.agg #[.string k, .string r]] w fun e w' => e = .returned (.bool true) ∧ Below w.heap.size w w') (w : World) :
    Calls Tryz.prog 21 #[.string s] w fun e w' => e = .returned (.tuple #[.agg #[.string k, .string r], .int .i64 0]) ∧ Below w.heap.size w w' := by
  have R0 := (Blk2.new w (.string ⟨#[]⟩) (.string ⟨#[]⟩) 48).alloc #[.string ⟨#[108, 111, 110, 103]⟩, .string s] 48
  have K0 := Blk2.new (w.alloc (.cells #[.string ⟨#[]⟩, .string ⟨#[]⟩] 48)) (.string ⟨#[108, 111, 110, 103]⟩) (.string s) 48
  simp only [World.size_alloc] at K0
  have B0 : Below w.heap.size w ((w.alloc (.cells #[.string ⟨#[]⟩, .string ⟨#[]⟩] 48)).alloc (.cells #[.string ⟨#[108, 111, 110, 103]⟩, .string s] 48)) := ((Below.refl _ _).alloc (Nat.le_refl _) _).alloc (by simp) _
  go_enter Tryz.func21, Tryz.ntmps21
  go_wp2_with fail
  generalize (w.alloc (.cells #[.string ⟨#[]⟩, .string ⟨#[]⟩] 48)).alloc (.cells #[.string ⟨#[108, 111, 110, 103]⟩, .string s] 48) = w0 at *
  refine (HC _).mono ?_
  rintro e w1 ⟨rfl, hb⟩
  have R1 := R0.below hb
  have K1 := K0.below hb
  have B1 := B0.trans (hb.mono B0.size)
  clear R0 K0 B0 hb HC
  have R := R1.belowB (Nat.lt_succ_self _) (put_below (Below.refl (w.heap.size + 1) w1) (Nat.le_refl _) (.string k) (.string r))
  have K := K1.put (.string k) (.string r)
  have B2 := put_below (C := w.heap.size + 1) B1 (Nat.le_succ _) (.string k) (.string r)
  clear B1
  obtain ⟨kl1, k10, k11, kf1⟩ := id K1
  obtain ⟨rl, r0, r1, rf⟩ := id R
  obtain ⟨kl, k0, k1, kf⟩ := id K
  go_wp2_with fail
  generalize (w1.setCell ⟨w.heap.size + 1, 0, none⟩ (.string k)).setCell ⟨w.heap.size + 1, 1, none⟩ (.string r) = w2 at *
  clear K1 R1 kl1 k10 k11 kf1
  refine (HR _).mono ?_
  rintro e w3 ⟨rfl, hb3⟩
  have R3 := R.below hb3
  have K3 := K.below hb3
  have B3 := B2.trans (hb3.mono B2.size)
  clear HR R K B2 hb3 rl r0 r1 rf kl k0 k1 kf
  obtain ⟨rl, r0, r1, rf⟩ := id R3
  obtain ⟨kl, k0, k1, kf⟩ := id K3
  go_wp2_with fail
  have P := R3.put (.string k) (.string r)
  have B9 := put_below B3 (Nat.le_refl _) (.string k) (.string r)
  clear B3 R3 K3
  generalize World.setCell _ ⟨w.heap.size, 1, none⟩ _ = w9 at *
  obtain ⟨_, p0, p1, _⟩ := P
  refine bodyPost_ret (v := .tuple #[.agg #[.string k, .string r], .int .i64 0]) ?_ rfl ⟨rfl, B9⟩
  simp [results, Tryz.results21, go_sem, p0, p1]
set_option maxHeartbeats 4000000 in
set_option maxRecDepth 100000 in
theorem refUnit_tt (s k r : ByteArray) (HC : ∀ w : World, Calls Tryz.prog 41 #[.string s, .string ⟨#[47]⟩] w fun e w' => e = .returned (.tuple #[.string k, .string r, .bool true]) ∧ Below w.heap.size w w') (HR : ∀ w : World, Calls Tryz.prog 43 #[.agg #[.string k, .string r]] w fun e w' => e = .returned (.bool true) ∧ Below w.heap.size w w') (w : World) :
    Calls Tryz.prog 22 #[.string s] w fun e w' => e = .returned (.tuple #[.agg #[.string k, .string r], .bool true]) ∧ Below w.heap.size w w' := by
  have R0 := (Blk2.new w (.string ⟨#[]⟩) (.string ⟨#[]⟩) 48).alloc #[.string ⟨#[108, 111, 110, 103]⟩, .string s] 48
  have K0 := Blk2.new (w.alloc (.cells #[.string ⟨#[]⟩, .string ⟨#[]⟩] 48)) (.string ⟨#[108, 111, 110, 103]⟩) (.string s) 48
  simp only [World.size_alloc] at K0
  have B0 : Below w.heap.size w ((w.alloc (.cells #[.string ⟨#[]⟩, .string ⟨#[]⟩] 48)).alloc (.cells #[.string ⟨#[108, 111, 110, 103]⟩, .string s] 48)) := ((Below.refl _ _).alloc (Nat.le_refl _) _).alloc (by simp) _
  go_enter Tryz.func22, Tryz.ntmps22
  go_wp2_with fail
  generalize (w.alloc (.cells #[.string ⟨#[]⟩, .string ⟨#[]⟩] 48)).alloc (.cells #[.string ⟨#[108, 111, 110, 103]⟩, .string s] 48) = w0 at *
  refine (HC _).mono ?_
  rintro e w1 ⟨rfl, hb⟩
  have R1 := R0.below hb
  have K1 := K0.below hb
  have B1 := B0.trans (hb.mono B0.size)
  clear R0 K0 B0 hb HC
  have R := R1.belowB (Nat.lt_succ_self _) (put_below (Below.refl (w.heap.size + 1) w1) (Nat.le_refl _) (.string k) (.string r))
  have K := K1.put (.string k) (.string r)
  have B2 := put_below (C := w.heap.size + 1) B1 (Nat.le_succ _) (.string k) (.string r)
  clear B1
  obtain ⟨kl1, k10, k11, kf1⟩ := id K1
  obtain ⟨rl, r0, r1, rf⟩ := id R
  obtain ⟨kl, k0, k1, kf⟩ := id K
  go_wp2_with fail
  generalize (w1.setCell ⟨w.heap.size + 1, 0, none⟩ (.string k)).setCell ⟨w.heap.size + 1, 1, none⟩ (.string r) = w2 at *
  clear K1 R1 kl1 k10 k11 kf1
  have RD := Blk2.drew R
  have KD := Blk2.drew K
  have BD := blw_drew B2
  go_region_with (go_at_call 43; refine (HR _).mono ?_; rintro e w3 ⟨rfl, hb3⟩; have R3 := RD.below hb3; have K3 := KD.below hb3; have B3 := BD.trans (hb3.mono BD.size); obtain ⟨rl3, r30, r31, rf3⟩ := id R3; obtain ⟨kl3, k30, k31, kf3⟩ := id K3)
  all_goals go_wp2_with fail
  all_goals
    have P := R3.put (.string k) (.string r)
    have B9 := put_below B3 (Nat.le_refl _) (.string k) (.string r)
    clear B3 R3 K3
    generalize World.setCell _ ⟨w.heap.size, 1, none⟩ _ = w9 at *
    obtain ⟨_, p0, p1, _⟩ := P
    refine bodyPost_ret (v := .tuple #[.agg #[.string k, .string r], .bool true]) ?_ rfl ⟨rfl, B9⟩
    simp [results, Tryz.results22, go_sem, p0, p1]
set_option maxHeartbeats 4000000 in
set_option maxRecDepth 100000 in
theorem rel_bad (s k r : ByteArray) (HC : ∀ w : World, Calls Tryz.prog 41 #[.string s, .string ⟨#[47]⟩] w fun e w' => e = .returned (.tuple #[.string k, .string r, .bool false]) ∧ Below w.heap.size w w') (HN : ∀ w : World, Calls Tryz.prog 27 #[.string k] w fun e w' => e = .returned (.bool false) ∧ w' = w) (w : World) :
    Calls Tryz.prog 23 #[.string s] w fun e w' => e = .returned (.tuple #[.agg #[.string ⟨#[]⟩, .bool false], .int .i64 2]) ∧ Below w.heap.size w w' := by
  have R0 := Blk2.new w (.string ⟨#[]⟩) (.bool false) 54
  have B0 : Below w.heap.size w (w.alloc (.cells #[.string ⟨#[]⟩, .bool false] 54)) := (Below.refl _ _).alloc (Nat.le_refl _) _
  go_enter Tryz.func23, Tryz.ntmps23
  go_wp2_with fail
  generalize w.alloc (.cells #[.string ⟨#[]⟩, .bool false] 54) = w0 at *
  refine (HC _).mono ?_
  rintro e w1 ⟨rfl, hb⟩
  have R3 := R0.below hb
  have B3 := B0.trans (hb.mono B0.size)
  clear R0 B0 hb HC
  obtain ⟨rl, r0, r1, rf⟩ := id R3
  go_wp2_with (go_at_call 27; refine (HN _).mono ?_; rintro e w2 ⟨rfl, rfl⟩)
  have P := R3.put (.string ⟨#[]⟩) (.bool false)
  have B9 := put_below B3 (Nat.le_refl _) (.string ⟨#[]⟩) (.bool false)
  clear B3 R3
  generalize World.setCell _ ⟨w.heap.size, 1, none⟩ _ = w9 at *
  obtain ⟨_, p0, p1, _⟩ := P
  refine bodyPost_ret (v := .tuple #[.agg #[.string ⟨#[]⟩, .bool false], .int .i64 2]) ?_ rfl ⟨rfl, B9⟩
  simp [results, Tryz.results23, go_sem, p0, p1]
set_option maxHeartbeats 4000000 in
set_option maxRecDepth 100000 in
theorem rel_badT (s k r : ByteArray) (HC : ∀ w : World, Calls Tryz.prog 41 #[.string s, .string ⟨#[47]⟩] w fun e w' => e = .returned (.tuple #[.string k, .string r, .bool true]) ∧ Below w.heap.size w w') (HN : ∀ w : World, Calls Tryz.prog 27 #[.string k] w fun e w' => e = .returned (.bool false) ∧ w' = w) (w : World) :
    Calls Tryz.prog 23 #[.string s] w fun e w' => e = .returned (.tuple #[.agg #[.string ⟨#[]⟩, .bool false], .int .i64 2]) ∧ Below w.heap.size w w' := by
  have R0 := Blk2.new w (.string ⟨#[]⟩) (.bool false) 54
  have B0 : Below w.heap.size w (w.alloc (.cells #[.string ⟨#[]⟩, .bool false] 54)) := (Below.refl _ _).alloc (Nat.le_refl _) _
  go_enter Tryz.func23, Tryz.ntmps23
  go_wp2_with fail
  generalize w.alloc (.cells #[.string ⟨#[]⟩, .bool false] 54) = w0 at *
  refine (HC _).mono ?_
  rintro e w1 ⟨rfl, hb⟩
  have R3 := R0.below hb
  have B3 := B0.trans (hb.mono B0.size)
  clear R0 B0 hb HC
  obtain ⟨rl, r0, r1, rf⟩ := id R3
  go_wp2_with (go_at_call 27; refine (HN _).mono ?_; rintro e w2 ⟨rfl, rfl⟩)
  have P := R3.put (.string ⟨#[]⟩) (.bool false)
  have B9 := put_below B3 (Nat.le_refl _) (.string ⟨#[]⟩) (.bool false)
  clear B3 R3
  generalize World.setCell _ ⟨w.heap.size, 1, none⟩ _ = w9 at *
  obtain ⟨_, p0, p1, _⟩ := P
  refine bodyPost_ret (v := .tuple #[.agg #[.string ⟨#[]⟩, .bool false], .int .i64 2]) ?_ rfl ⟨rfl, B9⟩
  simp [results, Tryz.results23, go_sem, p0, p1]
set_option maxHeartbeats 4000000 in
set_option maxRecDepth 100000 in
theorem rel_one (s k r : ByteArray) (HC : ∀ w : World, Calls Tryz.prog 41 #[.string s, .string ⟨#[47]⟩] w fun e w' => e = .returned (.tuple #[.string k, .string r, .bool false]) ∧ Below w.heap.size w w') (HN : ∀ w : World, Calls Tryz.prog 27 #[.string k] w fun e w' => e = .returned (.bool true) ∧ w' = w) (w : World) :
    Calls Tryz.prog 23 #[.string s] w fun e w' => e = .returned (.tuple #[.agg #[.string k, .bool false], .int .i64 0]) ∧ Below w.heap.size w w' := by
  have R0 := Blk2.new w (.string ⟨#[]⟩) (.bool false) 54
  have B0 : Below w.heap.size w (w.alloc (.cells #[.string ⟨#[]⟩, .bool false] 54)) := (Below.refl _ _).alloc (Nat.le_refl _) _
  go_enter Tryz.func23, Tryz.ntmps23
  go_wp2_with fail
  generalize w.alloc (.cells #[.string ⟨#[]⟩, .bool false] 54) = w0 at *
  refine (HC _).mono ?_
  rintro e w1 ⟨rfl, hb⟩
  have R3 := R0.below hb
  have B3 := B0.trans (hb.mono B0.size)
  clear R0 B0 hb HC
  obtain ⟨rl, r0, r1, rf⟩ := id R3
  go_wp2_with (go_at_call 27; refine (HN _).mono ?_; rintro e w2 ⟨rfl, rfl⟩)
  have P := R3.put (.string k) (.bool false)
  have B9 := put_below B3 (Nat.le_refl _) (.string k) (.bool false)
  clear B3 R3
  generalize World.setCell _ ⟨w.heap.size, 1, none⟩ _ = w9 at *
  obtain ⟨_, p0, p1, _⟩ := P
  refine bodyPost_ret (v := .tuple #[.agg #[.string k, .bool false], .int .i64 0]) ?_ rfl ⟨rfl, B9⟩
  simp [results, Tryz.results23, go_sem, p0, p1]
set_option maxHeartbeats 4000000 in
set_option maxRecDepth 100000 in
theorem rel_two (s k r : ByteArray) (HC : ∀ w : World, Calls Tryz.prog 41 #[.string s, .string ⟨#[47]⟩] w fun e w' => e = .returned (.tuple #[.string k, .string r, .bool true]) ∧ Below w.heap.size w w') (HN : ∀ w : World, Calls Tryz.prog 27 #[.string k] w fun e w' => e = .returned (.bool true) ∧ w' = w) (ha : (r.toList == [97, 108, 119, 97, 121, 115]) = true) (w : World) :
    Calls Tryz.prog 23 #[.string s] w fun e w' => e = .returned (.tuple #[.agg #[.string k, .bool true], .int .i64 0]) ∧ Below w.heap.size w w' := by
  have R0 := Blk2.new w (.string ⟨#[]⟩) (.bool false) 54
  have B0 : Below w.heap.size w (w.alloc (.cells #[.string ⟨#[]⟩, .bool false] 54)) := (Below.refl _ _).alloc (Nat.le_refl _) _
  go_enter Tryz.func23, Tryz.ntmps23
  go_wp2_with fail
  generalize w.alloc (.cells #[.string ⟨#[]⟩, .bool false] 54) = w0 at *
  refine (HC _).mono ?_
  rintro e w1 ⟨rfl, hb⟩
  have R3 := R0.below hb
  have B3 := B0.trans (hb.mono B0.size)
  clear R0 B0 hb HC
  obtain ⟨rl, r0, r1, rf⟩ := id R3
  go_wp2_with (go_at_call 27; refine (HN _).mono ?_; rintro e w2 ⟨rfl, rfl⟩)
  have P := R3.put (.string k) (.bool true)
  have B9 := put_below B3 (Nat.le_refl _) (.string k) (.bool true)
  clear B3 R3
  generalize World.setCell _ ⟨w.heap.size, 1, none⟩ _ = w9 at *
  obtain ⟨_, p0, p1, _⟩ := P
  refine bodyPost_ret (v := .tuple #[.agg #[.string k, .bool true], .int .i64 0]) ?_ rfl ⟨rfl, B9⟩
  simp [results, Tryz.results23, go_sem, p0, p1]
set_option maxHeartbeats 4000000 in
set_option maxRecDepth 100000 in
theorem rel_three (s k r : ByteArray) (HC : ∀ w : World, Calls Tryz.prog 41 #[.string s, .string ⟨#[47]⟩] w fun e w' => e = .returned (.tuple #[.string k, .string r, .bool true]) ∧ Below w.heap.size w w') (HN : ∀ w : World, Calls Tryz.prog 27 #[.string k] w fun e w' => e = .returned (.bool true) ∧ w' = w) (ha : (r.toList == [97, 108, 119, 97, 121, 115]) = false) (w : World) :
    Calls Tryz.prog 23 #[.string s] w fun e w' => e = .returned (.tuple #[.agg #[.string ⟨#[]⟩, .bool false], .int .i64 2]) ∧ Below w.heap.size w w' := by
  have R0 := Blk2.new w (.string ⟨#[]⟩) (.bool false) 54
  have B0 : Below w.heap.size w (w.alloc (.cells #[.string ⟨#[]⟩, .bool false] 54)) := (Below.refl _ _).alloc (Nat.le_refl _) _
  go_enter Tryz.func23, Tryz.ntmps23
  go_wp2_with fail
  generalize w.alloc (.cells #[.string ⟨#[]⟩, .bool false] 54) = w0 at *
  refine (HC _).mono ?_
  rintro e w1 ⟨rfl, hb⟩
  have R3 := R0.below hb
  have B3 := B0.trans (hb.mono B0.size)
  clear R0 B0 hb HC
  obtain ⟨rl, r0, r1, rf⟩ := id R3
  go_wp2_with (go_at_call 27; refine (HN _).mono ?_; rintro e w2 ⟨rfl, rfl⟩)
  have P := R3.put (.string ⟨#[]⟩) (.bool false)
  have B9 := put_below B3 (Nat.le_refl _) (.string ⟨#[]⟩) (.bool false)
  clear B3 R3
  generalize World.setCell _ ⟨w.heap.size, 1, none⟩ _ = w9 at *
  obtain ⟨_, p0, p1, _⟩ := P
  refine bodyPost_ret (v := .tuple #[.agg #[.string ⟨#[]⟩, .bool false], .int .i64 2]) ?_ rfl ⟨rfl, B9⟩
  simp [results, Tryz.results23, go_sem, p0, p1]
set_option maxHeartbeats 4000000 in
set_option maxRecDepth 100000 in
theorem refRel_ff (s k r : ByteArray) (HC : ∀ w : World, Calls Tryz.prog 41 #[.string s, .string ⟨#[47]⟩] w fun e w' => e = .returned (.tuple #[.string k, .string r, .bool false]) ∧ Below w.heap.size w w') (HN : ∀ w : World, Calls Tryz.prog 11 #[.string s] w fun e w' => e = .returned (.bool false) ∧ w' = w) (w : World) :
    Calls Tryz.prog 24 #[.string s] w fun e w' => e = .returned (.tuple #[.agg #[.string s, .bool false], .bool false]) ∧ Below w.heap.size w w' := by
  have R0 := (Blk2.new w (.string ⟨#[]⟩) (.bool false) 54).alloc #[.string s, .bool false] 54
  have K0 := Blk2.new (w.alloc (.cells #[.string ⟨#[]⟩, .bool false] 54)) (.string s) (.bool false) 54
  simp only [World.size_alloc] at K0
  have B0 : Below w.heap.size w ((w.alloc (.cells #[.string ⟨#[]⟩, .bool false] 54)).alloc (.cells #[.string s, .bool false] 54)) := ((Below.refl _ _).alloc (Nat.le_refl _) _).alloc (by simp) _
  go_enter Tryz.func24, Tryz.ntmps24
  go_wp2_with fail
  generalize (w.alloc (.cells #[.string ⟨#[]⟩, .bool false] 54)).alloc (.cells #[.string s, .bool false] 54) = w0 at *
  refine (HC _).mono ?_
  rintro e w1 ⟨rfl, hb⟩
  have R1 := R0.below hb
  have K1 := K0.below hb
  have B1 := B0.trans (hb.mono B0.size)
  clear R0 K0 B0 hb HC
  have R := R1
  have K := K1
  have B2 := B1
  clear B1 R1 K1
  obtain ⟨rl, r0, r1, rf⟩ := id R
  obtain ⟨kl, k0, k1, kf⟩ := id K
  go_wp2_with fail
  have R3 := Blk2.drew R
  have B3 := blw_drew B2
  obtain ⟨rl3, r30, r31, rf3⟩ := id R3
  obtain ⟨kl3, k30, k31, kf3⟩ := id (Blk2.drew K)
  go_region_with (go_at_call 11; refine (HN _).mono ?_; rintro e w3 ⟨rfl, rfl⟩)
  all_goals go_wp2_with fail
  all_goals
    have P := Blk2.drew (R.put (.string s) (.bool false))
    have B9 := blw_drew (put_below B2 (Nat.le_refl _) (.string s) (.bool false))
    clear B3 R3 B2 R
    generalize World.drew (World.setCell _ ⟨w.heap.size, 1, none⟩ _) = w9 at *
    obtain ⟨_, p0, p1, _⟩ := P
    refine bodyPost_ret (v := .tuple #[.agg #[.string s, .bool false], .bool false]) ?_ rfl ⟨rfl, B9⟩
    simp [results, Tryz.results24, go_sem, p0, p1]
set_option maxHeartbeats 4000000 in
set_option maxRecDepth 100000 in
theorem refRel_tf (s k r : ByteArray) (HC : ∀ w : World, Calls Tryz.prog 41 #[.string s, .string ⟨#[47]⟩] w fun e w' => e = .returned (.tuple #[.string k, .string r, .bool true]) ∧ Below w.heap.size w w') (HN : ∀ w : World, Calls Tryz.prog 11 #[.string k] w fun e w' => e = .returned (.bool false) ∧ w' = w) (ha : (r.toList == [97, 108, 119, 97, 121, 115]) = true) (w : World) :
    Calls Tryz.prog 24 #[.string s] w fun e w' => e = .returned (.tuple #[.agg #[.string k, .bool true], .bool false]) ∧ Below w.heap.size w w' := by
  have R0 := (Blk2.new w (.string ⟨#[]⟩) (.bool false) 54).alloc #[.string s, .bool false] 54
  have K0 := Blk2.new (w.alloc (.cells #[.string ⟨#[]⟩, .bool false] 54)) (.string s) (.bool false) 54
  simp only [World.size_alloc] at K0
  have B0 : Below w.heap.size w ((w.alloc (.cells #[.string ⟨#[]⟩, .bool false] 54)).alloc (.cells #[.string s, .bool false] 54)) := ((Below.refl _ _).alloc (Nat.le_refl _) _).alloc (by simp) _
  go_enter Tryz.func24, Tryz.ntmps24
  go_wp2_with fail
  generalize (w.alloc (.cells #[.string ⟨#[]⟩, .bool false] 54)).alloc (.cells #[.string s, .bool false] 54) = w0 at *
  refine (HC _).mono ?_
  rintro e w1 ⟨rfl, hb⟩
  have R1 := R0.below hb
  have K1 := K0.below hb
  have B1 := B0.trans (hb.mono B0.size)
  clear R0 K0 B0 hb HC
  have R := R1.belowB (Nat.lt_succ_self _) (put_below (Below.refl (w.heap.size + 1) w1) (Nat.le_refl _) (.string k) (.bool true))
  have K := K1.put (.string k) (.bool true)
  have B2 := put_below (C := w.heap.size + 1) B1 (Nat.le_succ _) (.string k) (.bool true)
  clear B1
  obtain ⟨kl1, k10, k11, kf1⟩ := id K1
  obtain ⟨rl, r0, r1, rf⟩ := id R
  obtain ⟨kl, k0, k1, kf⟩ := id K
  go_wp2_with fail
  generalize (w1.setCell ⟨w.heap.size + 1, 0, none⟩ (.string k)).setCell ⟨w.heap.size + 1, 1, none⟩ (.bool true) = w2 at *
  clear K1 R1 kl1 k10 k11 kf1
  have R3 := Blk2.drew R
  have B3 := blw_drew B2
  obtain ⟨rl3, r30, r31, rf3⟩ := id R3
  obtain ⟨kl3, k30, k31, kf3⟩ := id (Blk2.drew K)
  go_region_with (go_at_call 11; refine (HN _).mono ?_; rintro e w3 ⟨rfl, rfl⟩)
  all_goals go_wp2_with fail
  all_goals
    have P := Blk2.drew (R.put (.string k) (.bool true))
    have B9 := blw_drew (put_below B2 (Nat.le_refl _) (.string k) (.bool true))
    clear B3 R3 B2 R
    generalize World.drew (World.setCell _ ⟨w.heap.size, 1, none⟩ _) = w9 at *
    obtain ⟨_, p0, p1, _⟩ := P
    refine bodyPost_ret (v := .tuple #[.agg #[.string k, .bool true], .bool false]) ?_ rfl ⟨rfl, B9⟩
    simp [results, Tryz.results24, go_sem, p0, p1]
set_option maxHeartbeats 4000000 in
set_option maxRecDepth 100000 in
theorem refRel_ft (s k r : ByteArray) (HC : ∀ w : World, Calls Tryz.prog 41 #[.string s, .string ⟨#[47]⟩] w fun e w' => e = .returned (.tuple #[.string k, .string r, .bool false]) ∧ Below w.heap.size w w') (HN : ∀ w : World, Calls Tryz.prog 11 #[.string s] w fun e w' => e = .returned (.bool true) ∧ w' = w) (w : World) :
    Calls Tryz.prog 24 #[.string s] w fun e w' => e = .returned (.tuple #[.agg #[.string s, .bool false], .bool true]) ∧ Below w.heap.size w w' := by
  have R0 := (Blk2.new w (.string ⟨#[]⟩) (.bool false) 54).alloc #[.string s, .bool false] 54
  have K0 := Blk2.new (w.alloc (.cells #[.string ⟨#[]⟩, .bool false] 54)) (.string s) (.bool false) 54
  simp only [World.size_alloc] at K0
  have B0 : Below w.heap.size w ((w.alloc (.cells #[.string ⟨#[]⟩, .bool false] 54)).alloc (.cells #[.string s, .bool false] 54)) := ((Below.refl _ _).alloc (Nat.le_refl _) _).alloc (by simp) _
  go_enter Tryz.func24, Tryz.ntmps24
  go_wp2_with fail
  generalize (w.alloc (.cells #[.string ⟨#[]⟩, .bool false] 54)).alloc (.cells #[.string s, .bool false] 54) = w0 at *
  refine (HC _).mono ?_
  rintro e w1 ⟨rfl, hb⟩
  have R1 := R0.below hb
  have K1 := K0.below hb
  have B1 := B0.trans (hb.mono B0.size)
  clear R0 K0 B0 hb HC
  have R := R1
  have K := K1
  have B2 := B1
  clear B1 R1 K1
  obtain ⟨rl, r0, r1, rf⟩ := id R
  obtain ⟨kl, k0, k1, kf⟩ := id K
  go_wp2_with fail
  have R3 := Blk2.drew R
  have B3 := blw_drew B2
  obtain ⟨rl3, r30, r31, rf3⟩ := id R3
  obtain ⟨kl3, k30, k31, kf3⟩ := id (Blk2.drew K)
  go_region_with (go_at_call 11; refine (HN _).mono ?_; rintro e w3 ⟨rfl, rfl⟩)
  all_goals go_wp2_with fail
  all_goals
    have P := Blk2.drew (R.put (.string s) (.bool false))
    have B9 := blw_drew (put_below B2 (Nat.le_refl _) (.string s) (.bool false))
    clear B3 R3 B2 R
    generalize World.drew (World.setCell _ ⟨w.heap.size, 1, none⟩ _) = w9 at *
    obtain ⟨_, p0, p1, _⟩ := P
    refine bodyPost_ret (v := .tuple #[.agg #[.string s, .bool false], .bool true]) ?_ rfl ⟨rfl, B9⟩
    simp [results, Tryz.results24, go_sem, p0, p1]
set_option maxHeartbeats 4000000 in
set_option maxRecDepth 100000 in
theorem refRel_tt (s k r : ByteArray) (HC : ∀ w : World, Calls Tryz.prog 41 #[.string s, .string ⟨#[47]⟩] w fun e w' => e = .returned (.tuple #[.string k, .string r, .bool true]) ∧ Below w.heap.size w w') (HN : ∀ w : World, Calls Tryz.prog 11 #[.string k] w fun e w' => e = .returned (.bool true) ∧ w' = w) (ha : (r.toList == [97, 108, 119, 97, 121, 115]) = true) (w : World) :
    Calls Tryz.prog 24 #[.string s] w fun e w' => e = .returned (.tuple #[.agg #[.string k, .bool true], .bool true]) ∧ Below w.heap.size w w' := by
  have R0 := (Blk2.new w (.string ⟨#[]⟩) (.bool false) 54).alloc #[.string s, .bool false] 54
  have K0 := Blk2.new (w.alloc (.cells #[.string ⟨#[]⟩, .bool false] 54)) (.string s) (.bool false) 54
  simp only [World.size_alloc] at K0
  have B0 : Below w.heap.size w ((w.alloc (.cells #[.string ⟨#[]⟩, .bool false] 54)).alloc (.cells #[.string s, .bool false] 54)) := ((Below.refl _ _).alloc (Nat.le_refl _) _).alloc (by simp) _
  go_enter Tryz.func24, Tryz.ntmps24
  go_wp2_with fail
  generalize (w.alloc (.cells #[.string ⟨#[]⟩, .bool false] 54)).alloc (.cells #[.string s, .bool false] 54) = w0 at *
  refine (HC _).mono ?_
  rintro e w1 ⟨rfl, hb⟩
  have R1 := R0.below hb
  have K1 := K0.below hb
  have B1 := B0.trans (hb.mono B0.size)
  clear R0 K0 B0 hb HC
  have R := R1.belowB (Nat.lt_succ_self _) (put_below (Below.refl (w.heap.size + 1) w1) (Nat.le_refl _) (.string k) (.bool true))
  have K := K1.put (.string k) (.bool true)
  have B2 := put_below (C := w.heap.size + 1) B1 (Nat.le_succ _) (.string k) (.bool true)
  clear B1
  obtain ⟨kl1, k10, k11, kf1⟩ := id K1
  obtain ⟨rl, r0, r1, rf⟩ := id R
  obtain ⟨kl, k0, k1, kf⟩ := id K
  go_wp2_with fail
  generalize (w1.setCell ⟨w.heap.size + 1, 0, none⟩ (.string k)).setCell ⟨w.heap.size + 1, 1, none⟩ (.bool true) = w2 at *
  clear K1 R1 kl1 k10 k11 kf1
  have R3 := Blk2.drew R
  have B3 := blw_drew B2
  obtain ⟨rl3, r30, r31, rf3⟩ := id R3
  obtain ⟨kl3, k30, k31, kf3⟩ := id (Blk2.drew K)
  go_region_with (go_at_call 11; refine (HN _).mono ?_; rintro e w3 ⟨rfl, rfl⟩)
  all_goals go_wp2_with fail
  all_goals
    have P := Blk2.drew (R.put (.string k) (.bool true))
    have B9 := blw_drew (put_below B2 (Nat.le_refl _) (.string k) (.bool true))
    clear B3 R3 B2 R
    generalize World.drew (World.setCell _ ⟨w.heap.size, 1, none⟩ _) = w9 at *
    obtain ⟨_, p0, p1, _⟩ := P
    refine bodyPost_ret (v := .tuple #[.agg #[.string k, .bool true], .bool true]) ?_ rfl ⟨rfl, B9⟩
    simp [results, Tryz.results24, go_sem, p0, p1]
set_option maxHeartbeats 4000000 in
set_option maxRecDepth 100000 in
theorem refRel_no (s k r : ByteArray) (HC : ∀ w : World, Calls Tryz.prog 41 #[.string s, .string ⟨#[47]⟩] w fun e w' => e = .returned (.tuple #[.string k, .string r, .bool true]) ∧ Below w.heap.size w w') (ha : (r.toList == [97, 108, 119, 97, 121, 115]) = false) (w : World) :
    Calls Tryz.prog 24 #[.string s] w fun e w' => e = .returned (.tuple #[.agg #[.string ⟨#[]⟩, .bool false], .bool false]) ∧ Below w.heap.size w w' := by
  have R0 := (Blk2.new w (.string ⟨#[]⟩) (.bool false) 54).alloc #[.string s, .bool false] 54
  have K0 := Blk2.new (w.alloc (.cells #[.string ⟨#[]⟩, .bool false] 54)) (.string s) (.bool false) 54
  simp only [World.size_alloc] at K0
  have B0 : Below w.heap.size w ((w.alloc (.cells #[.string ⟨#[]⟩, .bool false] 54)).alloc (.cells #[.string s, .bool false] 54)) := ((Below.refl _ _).alloc (Nat.le_refl _) _).alloc (by simp) _
  go_enter Tryz.func24, Tryz.ntmps24
  go_wp2_with fail
  generalize (w.alloc (.cells #[.string ⟨#[]⟩, .bool false] 54)).alloc (.cells #[.string s, .bool false] 54) = w0 at *
  refine (HC _).mono ?_
  rintro e w1 ⟨rfl, hb⟩
  have R1 := R0.below hb
  have K1 := K0.below hb
  have B1 := B0.trans (hb.mono B0.size)
  clear R0 K0 B0 hb HC
  have R := R1.belowB (Nat.lt_succ_self _) (put_below (Below.refl (w.heap.size + 1) w1) (Nat.le_refl _) (.string k) (.bool true))
  have K := K1.put (.string k) (.bool true)
  have B2 := put_below (C := w.heap.size + 1) B1 (Nat.le_succ _) (.string k) (.bool true)
  clear B1
  obtain ⟨kl1, k10, k11, kf1⟩ := id K1
  obtain ⟨rl, r0, r1, rf⟩ := id R
  obtain ⟨kl, k0, k1, kf⟩ := id K
  go_wp2_with fail
  generalize (w1.setCell ⟨w.heap.size + 1, 0, none⟩ (.string k)).setCell ⟨w.heap.size + 1, 1, none⟩ (.bool true) = w2 at *
  clear K1 R1 kl1 k10 k11 kf1
  have R3 := R
  have B3 := B2
  have P := R3.put (.string ⟨#[]⟩) (.bool false)
  have B9 := put_below B3 (Nat.le_refl _) (.string ⟨#[]⟩) (.bool false)
  clear B3 R3
  generalize World.setCell _ ⟨w.heap.size, 1, none⟩ _ = w9 at *
  obtain ⟨_, p0, p1, _⟩ := P
  refine bodyPost_ret (v := .tuple #[.agg #[.string ⟨#[]⟩, .bool false], .bool false]) ?_ rfl ⟨rfl, B9⟩
  simp [results, Tryz.results24, go_sem, p0, p1]
end Go.Proofs.YtpcgcghhddnifaaGreatDoor
