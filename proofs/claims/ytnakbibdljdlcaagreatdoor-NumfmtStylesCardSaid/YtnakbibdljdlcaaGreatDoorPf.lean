/-
  The walk of numfmt.Style. Conditions: what the listed variables hold, the text's size.
-/
import Derived.Test.YtnakbibdljdlcaaGreatDoorPd
import Derived.Test.YtnakbibdljdlcaaGreatDoorPe
set_option linter.unusedVariables false
namespace Go.Proofs.YtnakbibdljdlcaaGreatDoor
open Go.RowKit Go.Vx
def nv (k : Int) (c : ByteArray) (f : Bool) (n : Int) : Value := .agg #[.int .i64 k, .string c, .string ⟨#[]⟩, .bool f, .int .i64 n]
/-- none of the five fixed texts -/
structure None5 (s : ByteArray) : Prop where
  q0 : s.toList.isEmpty = false
  q1 : (s.toList == [105, 110, 116, 101, 103, 101, 114]) = false
  q2 : (s.toList == [112, 101, 114, 99, 101, 110, 116]) = false
  q3 : (s.toList == [115, 104, 111, 114, 116]) = false
  q4 : (s.toList == [108, 111, 110, 103]) = false
theorem Blk5.belowB {B C : Nat} {w w1 : World} {c0 c1 c2 c3 c4 : Value} (h : Blk5 B w c0 c1 c2 c3 c4) (hC : B < C) (hb : Below C w w1) : Blk5 B w1 c0 c1 c2 c3 c4 := by
  obtain ⟨hc, hf⟩ := bcell hb
  exact ⟨Nat.lt_of_lt_of_le h.lt hb.size, (hc _ _ hC).trans h.a0, (hc _ _ hC).trans h.a1, (hc _ _ hC).trans h.a2, (hc _ _ hC).trans h.a3, (hc _ _ hC).trans h.a4, fun o => (hf _ _ hC).trans (h.fz o)⟩
theorem Blk5.new (w : World) (c0 c1 c2 c3 c4 : Value) (t : TypeId) : Blk5 w.heap.size (w.alloc (.cells #[c0, c1, c2, c3, c4] t)) c0 c1 c2 c3 c4 := by
  constructor <;> simp
theorem Blk5.alloc {B : Nat} {w : World} {c0 c1 c2 c3 c4 : Value} (h : Blk5 B w c0 c1 c2 c3 c4) (c : Array Value) (t : TypeId) : Blk5 B (w.alloc (.cells c t)) c0 c1 c2 c3 c4 :=
  h.below ((Below.refl _ _).alloc (Nat.le_refl _) _)
theorem Blk5.other {B b : Nat} {w : World} {c0 c1 c2 c3 c4 : Value} (h : Blk5 B w c0 c1 c2 c3 c4) (hb : B < b) (o : Nat) (v : Value) : Blk5 B (w.setCell ⟨b, o, none⟩ v) c0 c1 c2 c3 c4 :=
  h.belowB hb ((Below.refl b w).setCell (p := ⟨b, o, none⟩) (Nat.le_refl _) v)
theorem Blk5.set0 {B : Nat} {w : World} {c0 c1 c2 c3 c4 : Value} (h : Blk5 B w c0 c1 c2 c3 c4) (v : Value) : Blk5 B (w.setCell ⟨B, 0, none⟩ v) v c1 c2 c3 c4 := by
  refine ⟨by simpa using h.lt, World.cell?_setCell_same _ _ _ h.a0, ?_, ?_, ?_, ?_, fun o => by rw [World.frozen?_setCell]; exact h.fz o⟩
  · rw [World.cell?_setCell_other _ _ _ _ (fun e => by cases e)]; exact h.a1
  · rw [World.cell?_setCell_other _ _ _ _ (fun e => by cases e)]; exact h.a2
  · rw [World.cell?_setCell_other _ _ _ _ (fun e => by cases e)]; exact h.a3
  · rw [World.cell?_setCell_other _ _ _ _ (fun e => by cases e)]; exact h.a4
theorem Blk5.set2 {B : Nat} {w : World} {c0 c1 c2 c3 c4 : Value} (h : Blk5 B w c0 c1 c2 c3 c4) (v : Value) : Blk5 B (w.setCell ⟨B, 2, none⟩ v) c0 c1 v c3 c4 := by
  refine ⟨by simpa using h.lt, ?_, ?_, World.cell?_setCell_same _ _ _ h.a2, ?_, ?_, fun o => by rw [World.frozen?_setCell]; exact h.fz o⟩
  · rw [World.cell?_setCell_other _ _ _ _ (fun e => by cases e)]; exact h.a0
  · rw [World.cell?_setCell_other _ _ _ _ (fun e => by cases e)]; exact h.a1
  · rw [World.cell?_setCell_other _ _ _ _ (fun e => by cases e)]; exact h.a3
  · rw [World.cell?_setCell_other _ _ _ _ (fun e => by cases e)]; exact h.a4
theorem Blk5.set3 {B : Nat} {w : World} {c0 c1 c2 c3 c4 : Value} (h : Blk5 B w c0 c1 c2 c3 c4) (v : Value) : Blk5 B (w.setCell ⟨B, 3, none⟩ v) c0 c1 c2 v c4 := by
  refine ⟨by simpa using h.lt, ?_, ?_, ?_, World.cell?_setCell_same _ _ _ h.a3, ?_, fun o => by rw [World.frozen?_setCell]; exact h.fz o⟩
  · rw [World.cell?_setCell_other _ _ _ _ (fun e => by cases e)]; exact h.a0
  · rw [World.cell?_setCell_other _ _ _ _ (fun e => by cases e)]; exact h.a1
  · rw [World.cell?_setCell_other _ _ _ _ (fun e => by cases e)]; exact h.a2
  · rw [World.cell?_setCell_other _ _ _ _ (fun e => by cases e)]; exact h.a4
theorem Blk5.set4 {B : Nat} {w : World} {c0 c1 c2 c3 c4 : Value} (h : Blk5 B w c0 c1 c2 c3 c4) (v : Value) : Blk5 B (w.setCell ⟨B, 4, none⟩ v) c0 c1 c2 c3 v := by
  refine ⟨by simpa using h.lt, ?_, ?_, ?_, ?_, World.cell?_setCell_same _ _ _ h.a4, fun o => by rw [World.frozen?_setCell]; exact h.fz o⟩
  · rw [World.cell?_setCell_other _ _ _ _ (fun e => by cases e)]; exact h.a0
  · rw [World.cell?_setCell_other _ _ _ _ (fun e => by cases e)]; exact h.a1
  · rw [World.cell?_setCell_other _ _ _ _ (fun e => by cases e)]; exact h.a2
  · rw [World.cell?_setCell_other _ _ _ _ (fun e => by cases e)]; exact h.a3
theorem Blk5.put {B : Nat} {w : World} {c0 c1 c2 c3 c4 : Value} (h : Blk5 B w c0 c1 c2 c3 c4) (v0 v1 v2 v3 v4 : Value) :
    Blk5 B (((((w.setCell ⟨B, 0, none⟩ v0).setCell ⟨B, 1, none⟩ v1).setCell ⟨B, 2, none⟩ v2).setCell ⟨B, 3, none⟩ v3).setCell ⟨B, 4, none⟩ v4) v0 v1 v2 v3 v4 :=
  ((((h.set0 v0).set1 v1).set2 v2).set3 v3).set4 v4
theorem put_below {B C : Nat} {a w : World} (h : Below B a w) (hC : B ≤ C) (v0 v1 v2 v3 v4 : Value) :
    Below B a (((((w.setCell ⟨C, 0, none⟩ v0).setCell ⟨C, 1, none⟩ v1).setCell ⟨C, 2, none⟩ v2).setCell ⟨C, 3, none⟩ v3).setCell ⟨C, 4, none⟩ v4) :=
  ((((h.setCell (p := ⟨C, 0, none⟩) hC _).setCell (p := ⟨C, 1, none⟩) hC _).setCell (p := ⟨C, 2, none⟩) hC _).setCell (p := ⟨C, 3, none⟩) hC _).setCell (p := ⟨C, 4, none⟩) hC _
set_option maxHeartbeats 4000000 in
set_option maxRecDepth 100000 in
theorem style_no0 (s k r : ByteArray) (hn : None5 s) (HC : ∀ w : World, Calls Tryz.prog 8 #[.string s, .string ⟨#[47]⟩] w fun e w' => e = .returned (.tuple #[.string k, .string r, .bool false]) ∧ Below w.heap.size w w') (w : World) :
    Calls Tryz.prog 5 #[.string s] w fun e w' => e = .returned (.tuple #[nv 0 ⟨#[]⟩ false 0, .int .i64 2]) ∧ Below w.heap.size w w' := by
  obtain ⟨q0, q1, q2, q3, q4⟩ := hn
  have R0 := (Blk5.new w (.int .i64 0) (.string ⟨#[]⟩) (.string ⟨#[]⟩) (.bool false) (.int .i64 0) 24).alloc #[.int .i64 1, .string ⟨#[]⟩, .string ⟨#[]⟩, .bool false, .int .i64 0] 24
  have K0 := Blk5.new (w.alloc (.cells #[.int .i64 0, .string ⟨#[]⟩, .string ⟨#[]⟩, .bool false, .int .i64 0] 24)) (.int .i64 1) (.string ⟨#[]⟩) (.string ⟨#[]⟩) (.bool false) (.int .i64 0) 24
  simp only [World.size_alloc] at K0
  have B0 : Below w.heap.size w ((w.alloc (.cells #[.int .i64 0, .string ⟨#[]⟩, .string ⟨#[]⟩, .bool false, .int .i64 0] 24)).alloc (.cells #[.int .i64 1, .string ⟨#[]⟩, .string ⟨#[]⟩, .bool false, .int .i64 0] 24)) := ((Below.refl _ _).alloc (Nat.le_refl _) _).alloc (by simp) _
  go_enter Tryz.func5, Tryz.ntmps5
  go_wp2_with fail
  generalize (w.alloc (.cells #[.int .i64 0, .string ⟨#[]⟩, .string ⟨#[]⟩, .bool false, .int .i64 0] 24)).alloc (.cells #[.int .i64 1, .string ⟨#[]⟩, .string ⟨#[]⟩, .bool false, .int .i64 0] 24) = w0 at *
  refine (HC _).mono ?_
  rintro e w1 ⟨rfl, hb⟩
  have R := R0.below hb
  have K := K0.below hb
  have B1 := B0.trans (hb.mono B0.size)
  clear R0 K0 B0 hb HC
  obtain ⟨rl, r0, r1, r2, r3, r4, rf⟩ := id R
  obtain ⟨kl, k0, k1, k2, k3, k4, kf⟩ := id K
  go_wp2_with fail
  have P := R.put (.int .i64 0) (.string ⟨#[]⟩) (.string ⟨#[]⟩) (.bool false) (.int .i64 0)
  have B9 := put_below B1 (Nat.le_refl _) (.int .i64 0) (.string ⟨#[]⟩) (.string ⟨#[]⟩) (.bool false) (.int .i64 0)
  clear B1 R K r0 r1 r2 r3 r4 k0 k1 k2 k3 k4
  generalize World.setCell _ ⟨w.heap.size, 4, none⟩ _ = w9 at *
  obtain ⟨_, p0, p1, p2, p3, p4, _⟩ := P
  refine bodyPost_ret (v := .tuple #[nv 0 ⟨#[]⟩ false 0, .int .i64 2]) ?_ rfl ⟨rfl, B9⟩
  simp [results, Tryz.results5, go_sem, p0, p1, p2, p3, p4, nv]
set_option maxHeartbeats 4000000 in
set_option maxRecDepth 100000 in
theorem style_no1 (s k r : ByteArray) (hn : None5 s) (HC : ∀ w : World, Calls Tryz.prog 8 #[.string s, .string ⟨#[47]⟩] w fun e w' => e = .returned (.tuple #[.string k, .string r, .bool true]) ∧ Below w.heap.size w w') (g0 : (k.toList == [99, 117, 114, 114, 101, 110, 99, 121]) = false) (g1 : (k.toList == [102, 105, 120, 101, 100]) = false) (w : World) :
    Calls Tryz.prog 5 #[.string s] w fun e w' => e = .returned (.tuple #[nv 0 ⟨#[]⟩ false 0, .int .i64 2]) ∧ Below w.heap.size w w' := by
  obtain ⟨q0, q1, q2, q3, q4⟩ := hn
  have R0 := (Blk5.new w (.int .i64 0) (.string ⟨#[]⟩) (.string ⟨#[]⟩) (.bool false) (.int .i64 0) 24).alloc #[.int .i64 1, .string ⟨#[]⟩, .string ⟨#[]⟩, .bool false, .int .i64 0] 24
  have K0 := Blk5.new (w.alloc (.cells #[.int .i64 0, .string ⟨#[]⟩, .string ⟨#[]⟩, .bool false, .int .i64 0] 24)) (.int .i64 1) (.string ⟨#[]⟩) (.string ⟨#[]⟩) (.bool false) (.int .i64 0) 24
  simp only [World.size_alloc] at K0
  have B0 : Below w.heap.size w ((w.alloc (.cells #[.int .i64 0, .string ⟨#[]⟩, .string ⟨#[]⟩, .bool false, .int .i64 0] 24)).alloc (.cells #[.int .i64 1, .string ⟨#[]⟩, .string ⟨#[]⟩, .bool false, .int .i64 0] 24)) := ((Below.refl _ _).alloc (Nat.le_refl _) _).alloc (by simp) _
  go_enter Tryz.func5, Tryz.ntmps5
  go_wp2_with fail
  generalize (w.alloc (.cells #[.int .i64 0, .string ⟨#[]⟩, .string ⟨#[]⟩, .bool false, .int .i64 0] 24)).alloc (.cells #[.int .i64 1, .string ⟨#[]⟩, .string ⟨#[]⟩, .bool false, .int .i64 0] 24) = w0 at *
  refine (HC _).mono ?_
  rintro e w1 ⟨rfl, hb⟩
  have R := R0.below hb
  have K := K0.below hb
  have B1 := B0.trans (hb.mono B0.size)
  clear R0 K0 B0 hb HC
  obtain ⟨rl, r0, r1, r2, r3, r4, rf⟩ := id R
  obtain ⟨kl, k0, k1, k2, k3, k4, kf⟩ := id K
  go_wp2_with fail
  have P := R.put (.int .i64 0) (.string ⟨#[]⟩) (.string ⟨#[]⟩) (.bool false) (.int .i64 0)
  have B9 := put_below B1 (Nat.le_refl _) (.int .i64 0) (.string ⟨#[]⟩) (.string ⟨#[]⟩) (.bool false) (.int .i64 0)
  clear B1 R K r0 r1 r2 r3 r4 k0 k1 k2 k3 k4
  generalize World.setCell _ ⟨w.heap.size, 4, none⟩ _ = w9 at *
  obtain ⟨_, p0, p1, p2, p3, p4, _⟩ := P
  refine bodyPost_ret (v := .tuple #[nv 0 ⟨#[]⟩ false 0, .int .i64 2]) ?_ rfl ⟨rfl, B9⟩
  simp [results, Tryz.results5, go_sem, p0, p1, p2, p3, p4, nv]
set_option maxHeartbeats 4000000 in
set_option maxRecDepth 100000 in
theorem style_fixno (s k r : ByteArray) (hn : None5 s) (HC : ∀ w : World, Calls Tryz.prog 8 #[.string s, .string ⟨#[47]⟩] w fun e w' => e = .returned (.tuple #[.string k, .string r, .bool true]) ∧ Below w.heap.size w w') (g0 : (k.toList == [99, 117, 114, 114, 101, 110, 99, 121]) = false) (g1 : (k.toList == [102, 105, 120, 101, 100]) = true) (hr : r.size ≤ 281474976710656) (hno : ∀ n, n < 41 → Lib.decDigits n ≠ r.data.toList) (w : World) (hg : Glob w) :
    Calls Tryz.prog 5 #[.string s] w fun e w' => e = .returned (.tuple #[nv 0 ⟨#[]⟩ false 0, .int .i64 2]) ∧ Below w.heap.size w w' := by
  have HN := Lib.hid (fun (w : World) (hg : Glob w) => number_no r hr hno w hg)
  clear hno
  have G0 := Lib.hid hg
  have hg0 := hg
  clear hg
  obtain ⟨q0, q1, q2, q3, q4⟩ := hn
  have R0 := (Blk5.new w (.int .i64 0) (.string ⟨#[]⟩) (.string ⟨#[]⟩) (.bool false) (.int .i64 0) 24).alloc #[.int .i64 1, .string ⟨#[]⟩, .string ⟨#[]⟩, .bool false, .int .i64 0] 24
  have K0 := Blk5.new (w.alloc (.cells #[.int .i64 0, .string ⟨#[]⟩, .string ⟨#[]⟩, .bool false, .int .i64 0] 24)) (.int .i64 1) (.string ⟨#[]⟩) (.string ⟨#[]⟩) (.bool false) (.int .i64 0) 24
  simp only [World.size_alloc] at K0
  have B0 : Below w.heap.size w ((w.alloc (.cells #[.int .i64 0, .string ⟨#[]⟩, .string ⟨#[]⟩, .bool false, .int .i64 0] 24)).alloc (.cells #[.int .i64 1, .string ⟨#[]⟩, .string ⟨#[]⟩, .bool false, .int .i64 0] 24)) := ((Below.refl _ _).alloc (Nat.le_refl _) _).alloc (by simp) _
  go_enter Tryz.func5, Tryz.ntmps5
  go_wp2_with fail
  generalize (w.alloc (.cells #[.int .i64 0, .string ⟨#[]⟩, .string ⟨#[]⟩, .bool false, .int .i64 0] 24)).alloc (.cells #[.int .i64 1, .string ⟨#[]⟩, .string ⟨#[]⟩, .bool false, .int .i64 0] 24) = w0 at *
  refine (HC _).mono ?_
  rintro e w1 ⟨rfl, hb⟩
  have R := R0.below hb
  have K := K0.below hb
  have B1 := B0.trans (hb.mono B0.size)
  have hg1 := hg0.below B1
  clear R0 K0 B0 hb HC
  obtain ⟨rl, r0, r1, r2, r3, r4, rf⟩ := id R
  obtain ⟨kl, k0, k1, k2, k3, k4, kf⟩ := id K
  go_wp2_with fail
  refine (HN.out _ hg1).mono ?_
  rintro e w2 ⟨n, rfl, hb⟩
  have R2 := R.below hb
  have K2 := K.below hb
  have B2 := B1.trans (hb.mono B1.size)
  clear R K B1 hb r0 r1 r2 r3 r4 rf rl k0 k1 k2 k3 k4 kf kl hg1
  have R := R2
  have K := K2
  have B1 := B2
  clear R2 K2 B2
  obtain ⟨rl, r0, r1, r2, r3, r4, rf⟩ := id R
  obtain ⟨kl, k0, k1, k2, k3, k4, kf⟩ := id K
  go_wp2_with fail
  have P := R.put (.int .i64 0) (.string ⟨#[]⟩) (.string ⟨#[]⟩) (.bool false) (.int .i64 0)
  have B9 := put_below B1 (Nat.le_refl _) (.int .i64 0) (.string ⟨#[]⟩) (.string ⟨#[]⟩) (.bool false) (.int .i64 0)
  clear B1 R K r0 r1 r2 r3 r4 k0 k1 k2 k3 k4
  generalize World.setCell _ ⟨w.heap.size, 4, none⟩ _ = w9 at *
  obtain ⟨_, p0, p1, p2, p3, p4, _⟩ := P
  refine bodyPost_ret (v := .tuple #[nv 0 ⟨#[]⟩ false 0, .int .i64 2]) ?_ rfl ⟨rfl, B9⟩
  simp [results, Tryz.results5, go_sem, p0, p1, p2, p3, p4, nv]
set_option maxHeartbeats 4000000 in
set_option maxRecDepth 100000 in
theorem style_fix (s k : ByteArray) (n : Nat) (hn41 : n < 41) (hn : None5 s) (r : ByteArray) (hr : r = ⟨(Lib.decDigits n).toArray⟩) (HC : ∀ w : World, Calls Tryz.prog 8 #[.string s, .string ⟨#[47]⟩] w fun e w' => e = .returned (.tuple #[.string k, .string r, .bool true]) ∧ Below w.heap.size w w') (g0 : (k.toList == [99, 117, 114, 114, 101, 110, 99, 121]) = false) (g1 : (k.toList == [102, 105, 120, 101, 100]) = true) (w : World) :
    Calls Tryz.prog 5 #[.string s] w fun e w' => e = .returned (.tuple #[nv 1 ⟨#[]⟩ true n, .int .i64 0]) ∧ Below w.heap.size w w' := by
  have HN := number_yes n hn41
  rw [← hr] at HN
  clear hr
  obtain ⟨q0, q1, q2, q3, q4⟩ := hn
  have R0 := (Blk5.new w (.int .i64 0) (.string ⟨#[]⟩) (.string ⟨#[]⟩) (.bool false) (.int .i64 0) 24).alloc #[.int .i64 1, .string ⟨#[]⟩, .string ⟨#[]⟩, .bool false, .int .i64 0] 24
  have K0 := Blk5.new (w.alloc (.cells #[.int .i64 0, .string ⟨#[]⟩, .string ⟨#[]⟩, .bool false, .int .i64 0] 24)) (.int .i64 1) (.string ⟨#[]⟩) (.string ⟨#[]⟩) (.bool false) (.int .i64 0) 24
  simp only [World.size_alloc] at K0
  have B0 : Below w.heap.size w ((w.alloc (.cells #[.int .i64 0, .string ⟨#[]⟩, .string ⟨#[]⟩, .bool false, .int .i64 0] 24)).alloc (.cells #[.int .i64 1, .string ⟨#[]⟩, .string ⟨#[]⟩, .bool false, .int .i64 0] 24)) := ((Below.refl _ _).alloc (Nat.le_refl _) _).alloc (by simp) _
  go_enter Tryz.func5, Tryz.ntmps5
  go_wp2_with fail
  generalize (w.alloc (.cells #[.int .i64 0, .string ⟨#[]⟩, .string ⟨#[]⟩, .bool false, .int .i64 0] 24)).alloc (.cells #[.int .i64 1, .string ⟨#[]⟩, .string ⟨#[]⟩, .bool false, .int .i64 0] 24) = w0 at *
  refine (HC _).mono ?_
  rintro e w1 ⟨rfl, hb⟩
  have R := R0.below hb
  have K := K0.below hb
  have B1 := B0.trans (hb.mono B0.size)
  clear R0 K0 B0 hb HC
  obtain ⟨rl, r0, r1, r2, r3, r4, rf⟩ := id R
  obtain ⟨kl, k0, k1, k2, k3, k4, kf⟩ := id K
  go_wp2_with fail
  refine (HN _).mono ?_
  rintro e w2 ⟨rfl, hb⟩
  have R2 := R.below hb
  have K2 := K.below hb
  have B2 := B1.trans (hb.mono B1.size)
  clear R K B1 hb r0 r1 r2 r3 r4 rf rl k0 k1 k2 k3 k4 kf kl
  have R := R2
  have K := K2
  have B1 := B2
  clear R2 K2 B2
  obtain ⟨rl, r0, r1, r2, r3, r4, rf⟩ := id R
  obtain ⟨kl, k0, k1, k2, k3, k4, kf⟩ := id K
  go_wp2_with fail
  have R3 := (R.other (Nat.lt_succ_self _) 3 (.bool true)).other (Nat.lt_succ_self _) 4 (.int .i64 n)
  have K3 := (K.set3 (.bool true)).set4 (.int .i64 n)
  have B3 := (B1.setCell (p := ⟨w.heap.size + 1, 3, none⟩) (Nat.le_succ _) (.bool true)).setCell (p := ⟨w.heap.size + 1, 4, none⟩) (Nat.le_succ _) (.int .i64 n)
  clear R K B1 r0 r1 r2 r3 r4 rf rl k0 k1 k2 k3 k4 kf kl
  generalize World.setCell _ ⟨w.heap.size + 1, 4, none⟩ _ = w3 at *
  refine (check_fix _ n hn41 w3 K3 _ (Nat.le_refl _)).mono ?_
  rintro e w4 ⟨rfl, K, hb⟩
  have R := R3.belowB (Nat.lt_succ_self _) hb
  have B1 := B3.trans (hb.mono (Nat.le_succ _))
  clear R3 K3 B3 hb
  obtain ⟨rl, r0, r1, r2, r3, r4, rf⟩ := id R
  obtain ⟨kl, k0, k1, k2, k3, k4, kf⟩ := id K
  go_wp2_with fail
  have P := R.put (.int .i64 1) (.string ⟨#[]⟩) (.string ⟨#[]⟩) (.bool true) (.int .i64 n)
  have B9 := put_below B1 (Nat.le_refl _) (.int .i64 1) (.string ⟨#[]⟩) (.string ⟨#[]⟩) (.bool true) (.int .i64 n)
  clear B1 R K r0 r1 r2 r3 r4 k0 k1 k2 k3 k4
  generalize World.setCell _ ⟨w.heap.size, 4, none⟩ _ = w9 at *
  obtain ⟨_, p0, p1, p2, p3, p4, _⟩ := P
  refine bodyPost_ret (v := .tuple #[nv 1 ⟨#[]⟩ true n, .int .i64 0]) ?_ rfl ⟨rfl, B9⟩
  simp [results, Tryz.results5, go_sem, p0, p1, p2, p3, p4, nv]
set_option maxHeartbeats 4000000 in
set_option maxRecDepth 100000 in
theorem style_cur (s k r : ByteArray) (hr : r.size ≤ 281474976710656) (hn : None5 s) (HC : ∀ w : World, Calls Tryz.prog 8 #[.string s, .string ⟨#[47]⟩] w fun e w' => e = .returned (.tuple #[.string k, .string r, .bool true]) ∧ Below w.heap.size w w') (g0 : (k.toList == [99, 117, 114, 114, 101, 110, 99, 121]) = true) (hq : (decide (r.size = 3) && allB letB (turnS 97 (turnS 97 r))) = true) (w : World) :
    Calls Tryz.prog 5 #[.string s] w fun e w' => e = .returned (.tuple #[nv 3 (turnS 97 (turnS 97 r)) false 0, .int .i64 0]) ∧ Below w.heap.size w w' := by
  have HU := Upper_any r hr
  have hts := turnS_size 97 r
  rw [← hts] at hq hr
  have HK := fun b w hk B hB => check_cur b (turnS 97 r) hr w hk B hB _ hq
  clear hts hq hr
  generalize turnS 97 (turnS 97 r) = t2 at *
  generalize turnS 97 r = t1 at *
  obtain ⟨q0, q1, q2, q3, q4⟩ := hn
  have R0 := (Blk5.new w (.int .i64 0) (.string ⟨#[]⟩) (.string ⟨#[]⟩) (.bool false) (.int .i64 0) 24).alloc #[.int .i64 1, .string ⟨#[]⟩, .string ⟨#[]⟩, .bool false, .int .i64 0] 24
  have K0 := Blk5.new (w.alloc (.cells #[.int .i64 0, .string ⟨#[]⟩, .string ⟨#[]⟩, .bool false, .int .i64 0] 24)) (.int .i64 1) (.string ⟨#[]⟩) (.string ⟨#[]⟩) (.bool false) (.int .i64 0) 24
  simp only [World.size_alloc] at K0
  have B0 : Below w.heap.size w ((w.alloc (.cells #[.int .i64 0, .string ⟨#[]⟩, .string ⟨#[]⟩, .bool false, .int .i64 0] 24)).alloc (.cells #[.int .i64 1, .string ⟨#[]⟩, .string ⟨#[]⟩, .bool false, .int .i64 0] 24)) := ((Below.refl _ _).alloc (Nat.le_refl _) _).alloc (by simp) _
  go_enter Tryz.func5, Tryz.ntmps5
  go_wp2_with fail
  generalize (w.alloc (.cells #[.int .i64 0, .string ⟨#[]⟩, .string ⟨#[]⟩, .bool false, .int .i64 0] 24)).alloc (.cells #[.int .i64 1, .string ⟨#[]⟩, .string ⟨#[]⟩, .bool false, .int .i64 0] 24) = w0 at *
  refine (HC _).mono ?_
  rintro e w1 ⟨rfl, hb⟩
  have R := R0.below hb
  have K := K0.below hb
  have B1 := B0.trans (hb.mono B0.size)
  clear R0 K0 B0 hb HC
  obtain ⟨rl, r0, r1, r2, r3, r4, rf⟩ := id R
  obtain ⟨kl, k0, k1, k2, k3, k4, kf⟩ := id K
  go_wp2_with fail
  refine (HU _).mono ?_
  rintro e w2 ⟨rfl, hb⟩
  have R2 := R.below hb
  have K2 := K.below hb
  have B2 := B1.trans (hb.mono B1.size)
  clear R K B1 hb r0 r1 r2 r3 r4 rf rl k0 k1 k2 k3 k4 kf kl
  have R := R2
  have K := K2
  have B1 := B2
  clear R2 K2 B2
  obtain ⟨rl, r0, r1, r2, r3, r4, rf⟩ := id R
  obtain ⟨kl, k0, k1, k2, k3, k4, kf⟩ := id K
  go_wp2_with fail
  have R3 := (R.other (Nat.lt_succ_self _) 0 (.int .i64 3)).other (Nat.lt_succ_self _) 1 (.string t1)
  have K3 := (K.set0 (.int .i64 3)).set1 (.string t1)
  have B3 := (B1.setCell (p := ⟨w.heap.size + 1, 0, none⟩) (Nat.le_succ _) (.int .i64 3)).setCell (p := ⟨w.heap.size + 1, 1, none⟩) (Nat.le_succ _) (.string t1)
  clear R K B1 r0 r1 r2 r3 r4 rf rl k0 k1 k2 k3 k4 kf kl
  generalize World.setCell _ ⟨w.heap.size + 1, 1, none⟩ _ = w3 at *
  refine (HK _ w3 K3 _ (Nat.le_refl _)).mono ?_
  rintro e w4 ⟨rfl, K, hb⟩
  have R := R3.belowB (Nat.lt_succ_self _) hb
  have B1 := B3.trans (hb.mono (Nat.le_succ _))
  clear R3 K3 B3 hb
  obtain ⟨rl, r0, r1, r2, r3, r4, rf⟩ := id R
  obtain ⟨kl, k0, k1, k2, k3, k4, kf⟩ := id K
  go_wp2_with fail
  have P := R.put (.int .i64 3) (.string t2) (.string ⟨#[]⟩) (.bool false) (.int .i64 0)
  have B9 := put_below B1 (Nat.le_refl _) (.int .i64 3) (.string t2) (.string ⟨#[]⟩) (.bool false) (.int .i64 0)
  clear B1 R K r0 r1 r2 r3 r4 k0 k1 k2 k3 k4
  generalize World.setCell _ ⟨w.heap.size, 4, none⟩ _ = w9 at *
  obtain ⟨_, p0, p1, p2, p3, p4, _⟩ := P
  refine bodyPost_ret (v := .tuple #[nv 3 t2 false 0, .int .i64 0]) ?_ rfl ⟨rfl, B9⟩
  simp [results, Tryz.results5, go_sem, p0, p1, p2, p3, p4, nv]
set_option maxHeartbeats 4000000 in
set_option maxRecDepth 100000 in
theorem style_curno (s k r : ByteArray) (hr : r.size ≤ 281474976710656) (hn : None5 s) (HC : ∀ w : World, Calls Tryz.prog 8 #[.string s, .string ⟨#[47]⟩] w fun e w' => e = .returned (.tuple #[.string k, .string r, .bool true]) ∧ Below w.heap.size w w') (g0 : (k.toList == [99, 117, 114, 114, 101, 110, 99, 121]) = true) (hq : (decide (r.size = 3) && allB letB (turnS 97 (turnS 97 r))) = false) (w : World) :
    Calls Tryz.prog 5 #[.string s] w fun e w' => e = .returned (.tuple #[nv 0 ⟨#[]⟩ false 0, .int .i64 2]) ∧ Below w.heap.size w w' := by
  have HU := Upper_any r hr
  have hts := turnS_size 97 r
  rw [← hts] at hq hr
  have HK := fun b w hk B hB => check_cur b (turnS 97 r) hr w hk B hB _ hq
  clear hts hq hr
  generalize turnS 97 (turnS 97 r) = t2 at *
  generalize turnS 97 r = t1 at *
  obtain ⟨q0, q1, q2, q3, q4⟩ := hn
  have R0 := (Blk5.new w (.int .i64 0) (.string ⟨#[]⟩) (.string ⟨#[]⟩) (.bool false) (.int .i64 0) 24).alloc #[.int .i64 1, .string ⟨#[]⟩, .string ⟨#[]⟩, .bool false, .int .i64 0] 24
  have K0 := Blk5.new (w.alloc (.cells #[.int .i64 0, .string ⟨#[]⟩, .string ⟨#[]⟩, .bool false, .int .i64 0] 24)) (.int .i64 1) (.string ⟨#[]⟩) (.string ⟨#[]⟩) (.bool false) (.int .i64 0) 24
  simp only [World.size_alloc] at K0
  have B0 : Below w.heap.size w ((w.alloc (.cells #[.int .i64 0, .string ⟨#[]⟩, .string ⟨#[]⟩, .bool false, .int .i64 0] 24)).alloc (.cells #[.int .i64 1, .string ⟨#[]⟩, .string ⟨#[]⟩, .bool false, .int .i64 0] 24)) := ((Below.refl _ _).alloc (Nat.le_refl _) _).alloc (by simp) _
  go_enter Tryz.func5, Tryz.ntmps5
  go_wp2_with fail
  generalize (w.alloc (.cells #[.int .i64 0, .string ⟨#[]⟩, .string ⟨#[]⟩, .bool false, .int .i64 0] 24)).alloc (.cells #[.int .i64 1, .string ⟨#[]⟩, .string ⟨#[]⟩, .bool false, .int .i64 0] 24) = w0 at *
  refine (HC _).mono ?_
  rintro e w1 ⟨rfl, hb⟩
  have R := R0.below hb
  have K := K0.below hb
  have B1 := B0.trans (hb.mono B0.size)
  clear R0 K0 B0 hb HC
  obtain ⟨rl, r0, r1, r2, r3, r4, rf⟩ := id R
  obtain ⟨kl, k0, k1, k2, k3, k4, kf⟩ := id K
  go_wp2_with fail
  refine (HU _).mono ?_
  rintro e w2 ⟨rfl, hb⟩
  have R2 := R.below hb
  have K2 := K.below hb
  have B2 := B1.trans (hb.mono B1.size)
  clear R K B1 hb r0 r1 r2 r3 r4 rf rl k0 k1 k2 k3 k4 kf kl
  have R := R2
  have K := K2
  have B1 := B2
  clear R2 K2 B2
  obtain ⟨rl, r0, r1, r2, r3, r4, rf⟩ := id R
  obtain ⟨kl, k0, k1, k2, k3, k4, kf⟩ := id K
  go_wp2_with fail
  have R3 := (R.other (Nat.lt_succ_self _) 0 (.int .i64 3)).other (Nat.lt_succ_self _) 1 (.string t1)
  have K3 := (K.set0 (.int .i64 3)).set1 (.string t1)
  have B3 := (B1.setCell (p := ⟨w.heap.size + 1, 0, none⟩) (Nat.le_succ _) (.int .i64 3)).setCell (p := ⟨w.heap.size + 1, 1, none⟩) (Nat.le_succ _) (.string t1)
  clear R K B1 r0 r1 r2 r3 r4 rf rl k0 k1 k2 k3 k4 kf kl
  generalize World.setCell _ ⟨w.heap.size + 1, 1, none⟩ _ = w3 at *
  refine (HK _ w3 K3 _ (Nat.le_refl _)).mono ?_
  rintro e w4 ⟨rfl, K, hb⟩
  have R := R3.belowB (Nat.lt_succ_self _) hb
  have B1 := B3.trans (hb.mono (Nat.le_succ _))
  clear R3 K3 B3 hb
  obtain ⟨rl, r0, r1, r2, r3, r4, rf⟩ := id R
  obtain ⟨kl, k0, k1, k2, k3, k4, kf⟩ := id K
  go_wp2_with fail
  have P := R.put (.int .i64 0) (.string ⟨#[]⟩) (.string ⟨#[]⟩) (.bool false) (.int .i64 0)
  have B9 := put_below B1 (Nat.le_refl _) (.int .i64 0) (.string ⟨#[]⟩) (.string ⟨#[]⟩) (.bool false) (.int .i64 0)
  clear B1 R K r0 r1 r2 r3 r4 k0 k1 k2 k3 k4
  generalize World.setCell _ ⟨w.heap.size, 4, none⟩ _ = w9 at *
  obtain ⟨_, p0, p1, p2, p3, p4, _⟩ := P
  refine bodyPost_ret (v := .tuple #[nv 0 ⟨#[]⟩ false 0, .int .i64 2]) ?_ rfl ⟨rfl, B9⟩
  simp [results, Tryz.results5, go_sem, p0, p1, p2, p3, p4, nv]
end Go.Proofs.YtnakbibdljdlcaaGreatDoor
