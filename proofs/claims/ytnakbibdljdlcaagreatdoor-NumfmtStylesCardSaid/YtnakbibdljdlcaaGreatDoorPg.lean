/-
  The walk of the reference's Style. Condition: the text's size.
-/
import Derived.Test.YtnakbibdljdlcaaGreatDoorPf
set_option linter.unusedVariables false
namespace Go.Proofs.YtnakbibdljdlcaaGreatDoor
open Go.RowKit Go.Vx
def fixL (n : Nat) : List UInt8 := [102, 105, 120, 101, 100, 47] ++ Lib.decDigits n
theorem fix_app (k : Nat) : (({ data := #[102, 105, 120, 101, 100, 47] } : ByteArray) ++ { data := (Lib.decDigits k).toArray }).toList = fixL k := by
  rw [Go.Lib.toList_data, ByteArray.data_append]
  simp [fixL]
theorem none_more {l : List UInt8} {k : Nat} (h : ∀ j, j < k → fixL j ≠ l) (hk : fixL k ≠ l) : ∀ j, j < k + 1 → fixL j ≠ l := fun j hj => by
  by_cases e : j = k
  · subst e; exact hk
  · exact h j (by omega)
set_option maxHeartbeats 8000000 in
set_option maxRecDepth 100000 in
theorem ref_a (s : ByteArray) (hs : s.size ≤ 281474976710656) (hn : None5 s) (v : Value) (hy : ∀ n, n < 41 → fixL n = s.toList → v = .tuple #[nv 1 ⟨#[]⟩ true n, .bool true]) (hv : (∀ n, n < 41 → fixL n ≠ s.toList) → v = .tuple #[nv 0 ⟨#[]⟩ false 0, .bool false]) (hz : s.size ≠ 12) (w : World) :
    Calls Tryz.prog 6 #[.string s] w fun e w' => e = .returned (v) ∧ Below w.heap.size w w' := by
  have HY := Lib.hid hy
  have HN := Lib.hid hv
  clear hy hv
  have z0 : ¬ (s.size : Int) = 12 := by omega
  obtain ⟨q0, q1, q2, q3, q4⟩ := hn
  have R0 := (Blk5.new w (.int .i64 0) (.string ⟨#[]⟩) (.string ⟨#[]⟩) (.bool false) (.int .i64 0) 24).alloc #[.int .i64 1, .string ⟨#[]⟩, .string ⟨#[]⟩, .bool false, .int .i64 0] 24
  have K0 := Blk5.new (w.alloc (.cells #[.int .i64 0, .string ⟨#[]⟩, .string ⟨#[]⟩, .bool false, .int .i64 0] 24)) (.int .i64 1) (.string ⟨#[]⟩) (.string ⟨#[]⟩) (.bool false) (.int .i64 0) 24
  simp only [World.size_alloc] at K0
  have B0 : Below w.heap.size w ((w.alloc (.cells #[.int .i64 0, .string ⟨#[]⟩, .string ⟨#[]⟩, .bool false, .int .i64 0] 24)).alloc (.cells #[.int .i64 1, .string ⟨#[]⟩, .string ⟨#[]⟩, .bool false, .int .i64 0] 24)) := ((Below.refl _ _).alloc (Nat.le_refl _) _).alloc (by simp) _
  go_enter Tryz.func6, Tryz.ntmps6
  go_wp2_with fail
  generalize (w.alloc (.cells #[.int .i64 0, .string ⟨#[]⟩, .string ⟨#[]⟩, .bool false, .int .i64 0] 24)).alloc (.cells #[.int .i64 1, .string ⟨#[]⟩, .string ⟨#[]⟩, .bool false, .int .i64 0] 24) = w0 at *
  have R := R0
  have K := K0
  have B1 := B0
  clear R0 K0 B0
  go_loopw [5] (fun u wr => ∃ k : Nat, u = .int .i64 k ∧ k ≤ 41 ∧ (∀ j, j < k → fixL j ≠ s.toList) ∧ Blk5 w.heap.size wr (.int .i64 0) (.string ⟨#[]⟩) (.string ⟨#[]⟩) (.bool false) (.int .i64 0) ∧ Blk5 (w.heap.size + 1) wr (.int .i64 1) (.string ⟨#[]⟩) (.string ⟨#[]⟩) (.bool false) (.int .i64 0) ∧ Below w.heap.size w wr) (fun u _ => 41 - (intOf u).toNat)
  case atStart => exact ⟨0, rfl, by omega, fun j hj => by omega, R, K, B1⟩
  case round =>
    clear R K B1
    obtain ⟨k, rfl, hk, hno, R, K, B1⟩ := hrel
    by_cases e : k = 41
    · subst e
      have hw := HN.out hno
      clear hno
      obtain ⟨rl, r0, r1, r2, r3, r4, rf⟩ := id R
      obtain ⟨kl, k0, k1, k2, k3, k4, kf⟩ := id K
      go_wp2_with fail
      have P := R.put (.int .i64 0) (.string ⟨#[]⟩) (.string ⟨#[]⟩) (.bool false) (.int .i64 0)
      have B9 := put_below B1 (Nat.le_refl _) (.int .i64 0) (.string ⟨#[]⟩) (.string ⟨#[]⟩) (.bool false) (.int .i64 0)
      clear B1 R K r0 r1 r2 r3 r4 k0 k1 k2 k3 k4
      generalize World.setCell _ ⟨w.heap.size, 4, none⟩ _ = w9 at *
      obtain ⟨_, p0, p1, p2, p3, p4, _⟩ := P
      refine bodyPost_ret (v := .tuple #[nv 0 ⟨#[]⟩ false 0, .bool false]) ?_ rfl ⟨by rw [hw], B9⟩
      simp [results, Tryz.results6, go_sem, p0, p1, p2, p3, p4, nv]
    · have HD := digits_yes k (by omega)
      have g0 : (k : Int) ≤ 40 := by omega
      have g6 : ¬ 9223372036854775807 < 6 + (Lib.decDigits k).length := by have := dec_size k (by omega); omega
      by_cases q : fixL k = s.toList
      · have hw := HY.out k (by omega) q
        have q5 : (s.toList == fixL k) = true := by rw [q]; exact beq_self_eq_true _
        rw [← fix_app] at q5
        clear hno q e
        obtain ⟨rl, r0, r1, r2, r3, r4, rf⟩ := id R
        obtain ⟨kl, k0, k1, k2, k3, k4, kf⟩ := id K
        go_wp2_with fail
        refine (HD _).mono ?_
        rintro e w1 ⟨rfl, hb⟩
        have R2 := R.below hb
        have K2 := K.below hb
        have B2 := B1.trans (hb.mono B1.size)
        clear R K B1 hb r0 r1 r2 r3 r4 rf rl k0 k1 k2 k3 k4 kf kl
        have R := R2
        have K := K2
        have B1 := B2
        clear R2 K2 B2
        obtain ⟨rl, r0, r1, r2, r3, r4, rf⟩ := id R
        obtain ⟨kl, k0, k1, k2, k3, k4, kf⟩ := id K
        go_wp2_with fail
        have R3 := (R.other (Nat.lt_succ_self _) 3 (.bool true)).other (Nat.lt_succ_self _) 4 (.int .i64 k)
        have K3 := (K.set3 (.bool true)).set4 (.int .i64 k)
        have B3 := (B1.setCell (p := ⟨w.heap.size + 1, 3, none⟩) (Nat.le_succ _) (.bool true)).setCell (p := ⟨w.heap.size + 1, 4, none⟩) (Nat.le_succ _) (.int .i64 k)
        clear R K B1 r0 r1 r2 r3 r4 rf rl k0 k1 k2 k3 k4 kf kl
        generalize World.setCell _ ⟨w.heap.size + 1, 4, none⟩ _ = w3 at *
        have R := R3
        have K := K3
        have B1 := B3
        clear R3 K3 B3
        obtain ⟨rl, r0, r1, r2, r3, r4, rf⟩ := id R
        obtain ⟨kl, k0, k1, k2, k3, k4, kf⟩ := id K
        go_wp2_with fail
        have P := R.put (.int .i64 1) (.string ⟨#[]⟩) (.string ⟨#[]⟩) (.bool true) (.int .i64 k)
        have B9 := put_below B1 (Nat.le_refl _) (.int .i64 1) (.string ⟨#[]⟩) (.string ⟨#[]⟩) (.bool true) (.int .i64 k)
        clear B1 R K r0 r1 r2 r3 r4 k0 k1 k2 k3 k4
        generalize World.setCell _ ⟨w.heap.size, 4, none⟩ _ = w9 at *
        obtain ⟨_, p0, p1, p2, p3, p4, _⟩ := P
        refine bodyPost_ret (v := .tuple #[nv 1 ⟨#[]⟩ true k, .bool true]) ?_ rfl ⟨by rw [hw], B9⟩
        simp [results, Tryz.results6, go_sem, p0, p1, p2, p3, p4, nv]
      · have hno2 := Lib.hid (none_more hno q)
        have q5 : (s.toList == fixL k) = false := beq_eq_false_iff_ne.2 (fun h => q h.symm)
        rw [← fix_app] at q5
        clear hno q
        obtain ⟨rl, r0, r1, r2, r3, r4, rf⟩ := id R
        obtain ⟨kl, k0, k1, k2, k3, k4, kf⟩ := id K
        go_wp2_with fail
        refine (HD _).mono ?_
        rintro e w1 ⟨rfl, hb⟩
        have R2 := R.below hb
        have K2 := K.below hb
        have B2 := B1.trans (hb.mono B1.size)
        clear R K B1 hb r0 r1 r2 r3 r4 rf rl k0 k1 k2 k3 k4 kf kl
        go_wp2_with fail
        all_goals
          go_round
          case rel => exact ⟨k + 1, by simp [go_sem], by omega, hno2.out, R2, K2, B2⟩
          case measure => simp [intOf]; omega
set_option maxHeartbeats 8000000 in
set_option maxRecDepth 100000 in
theorem ref_b (s : ByteArray) (hs : s.size ≤ 281474976710656) (hn : None5 s) (v : Value) (hy : ∀ n, n < 41 → fixL n = s.toList → v = .tuple #[nv 1 ⟨#[]⟩ true n, .bool true]) (hv : (∀ n, n < 41 → fixL n ≠ s.toList) → v = .tuple #[nv 0 ⟨#[]⟩ false 0, .bool false]) (hz : s.size = 12) (q5 : ((s.extract 0 9).toList == [99, 117, 114, 114, 101, 110, 99, 121, 47]) = false) (w : World) :
    Calls Tryz.prog 6 #[.string s] w fun e w' => e = .returned (v) ∧ Below w.heap.size w w' := by
  have HY := Lib.hid hy
  have HN := Lib.hid hv
  clear hy hv
  have z0 : (s.size : Int) = 12 := by omega
  have z1 : ¬ s.size < 9 := by omega
  obtain ⟨q0, q1, q2, q3, q4⟩ := hn
  have R0 := (Blk5.new w (.int .i64 0) (.string ⟨#[]⟩) (.string ⟨#[]⟩) (.bool false) (.int .i64 0) 24).alloc #[.int .i64 1, .string ⟨#[]⟩, .string ⟨#[]⟩, .bool false, .int .i64 0] 24
  have K0 := Blk5.new (w.alloc (.cells #[.int .i64 0, .string ⟨#[]⟩, .string ⟨#[]⟩, .bool false, .int .i64 0] 24)) (.int .i64 1) (.string ⟨#[]⟩) (.string ⟨#[]⟩) (.bool false) (.int .i64 0) 24
  simp only [World.size_alloc] at K0
  have B0 : Below w.heap.size w ((w.alloc (.cells #[.int .i64 0, .string ⟨#[]⟩, .string ⟨#[]⟩, .bool false, .int .i64 0] 24)).alloc (.cells #[.int .i64 1, .string ⟨#[]⟩, .string ⟨#[]⟩, .bool false, .int .i64 0] 24)) := ((Below.refl _ _).alloc (Nat.le_refl _) _).alloc (by simp) _
  go_enter Tryz.func6, Tryz.ntmps6
  go_wp2_with fail
  generalize (w.alloc (.cells #[.int .i64 0, .string ⟨#[]⟩, .string ⟨#[]⟩, .bool false, .int .i64 0] 24)).alloc (.cells #[.int .i64 1, .string ⟨#[]⟩, .string ⟨#[]⟩, .bool false, .int .i64 0] 24) = w0 at *
  have R := R0
  have K := K0
  have B1 := B0
  clear R0 K0 B0
  go_loopw [5] (fun u wr => ∃ k : Nat, u = .int .i64 k ∧ k ≤ 41 ∧ (∀ j, j < k → fixL j ≠ s.toList) ∧ Blk5 w.heap.size wr (.int .i64 0) (.string ⟨#[]⟩) (.string ⟨#[]⟩) (.bool false) (.int .i64 0) ∧ Blk5 (w.heap.size + 1) wr (.int .i64 1) (.string ⟨#[]⟩) (.string ⟨#[]⟩) (.bool false) (.int .i64 0) ∧ Below w.heap.size w wr) (fun u _ => 41 - (intOf u).toNat)
  case atStart => exact ⟨0, rfl, by omega, fun j hj => by omega, R, K, B1⟩
  case round =>
    clear R K B1
    obtain ⟨k, rfl, hk, hno, R, K, B1⟩ := hrel
    by_cases e : k = 41
    · subst e
      have hw := HN.out hno
      clear hno
      obtain ⟨rl, r0, r1, r2, r3, r4, rf⟩ := id R
      obtain ⟨kl, k0, k1, k2, k3, k4, kf⟩ := id K
      go_wp2_with fail
      have P := R.put (.int .i64 0) (.string ⟨#[]⟩) (.string ⟨#[]⟩) (.bool false) (.int .i64 0)
      have B9 := put_below B1 (Nat.le_refl _) (.int .i64 0) (.string ⟨#[]⟩) (.string ⟨#[]⟩) (.bool false) (.int .i64 0)
      clear B1 R K r0 r1 r2 r3 r4 k0 k1 k2 k3 k4
      generalize World.setCell _ ⟨w.heap.size, 4, none⟩ _ = w9 at *
      obtain ⟨_, p0, p1, p2, p3, p4, _⟩ := P
      refine bodyPost_ret (v := .tuple #[nv 0 ⟨#[]⟩ false 0, .bool false]) ?_ rfl ⟨by rw [hw], B9⟩
      simp [results, Tryz.results6, go_sem, p0, p1, p2, p3, p4, nv]
    · have HD := digits_yes k (by omega)
      have g0 : (k : Int) ≤ 40 := by omega
      have g6 : ¬ 9223372036854775807 < 6 + (Lib.decDigits k).length := by have := dec_size k (by omega); omega
      by_cases q : fixL k = s.toList
      · have hw := HY.out k (by omega) q
        have q5 : (s.toList == fixL k) = true := by rw [q]; exact beq_self_eq_true _
        rw [← fix_app] at q5
        clear hno q e
        obtain ⟨rl, r0, r1, r2, r3, r4, rf⟩ := id R
        obtain ⟨kl, k0, k1, k2, k3, k4, kf⟩ := id K
        go_wp2_with fail
        refine (HD _).mono ?_
        rintro e w1 ⟨rfl, hb⟩
        have R2 := R.below hb
        have K2 := K.below hb
        have B2 := B1.trans (hb.mono B1.size)
        clear R K B1 hb r0 r1 r2 r3 r4 rf rl k0 k1 k2 k3 k4 kf kl
        have R := R2
        have K := K2
        have B1 := B2
        clear R2 K2 B2
        obtain ⟨rl, r0, r1, r2, r3, r4, rf⟩ := id R
        obtain ⟨kl, k0, k1, k2, k3, k4, kf⟩ := id K
        go_wp2_with fail
        have R3 := (R.other (Nat.lt_succ_self _) 3 (.bool true)).other (Nat.lt_succ_self _) 4 (.int .i64 k)
        have K3 := (K.set3 (.bool true)).set4 (.int .i64 k)
        have B3 := (B1.setCell (p := ⟨w.heap.size + 1, 3, none⟩) (Nat.le_succ _) (.bool true)).setCell (p := ⟨w.heap.size + 1, 4, none⟩) (Nat.le_succ _) (.int .i64 k)
        clear R K B1 r0 r1 r2 r3 r4 rf rl k0 k1 k2 k3 k4 kf kl
        generalize World.setCell _ ⟨w.heap.size + 1, 4, none⟩ _ = w3 at *
        have R := R3
        have K := K3
        have B1 := B3
        clear R3 K3 B3
        obtain ⟨rl, r0, r1, r2, r3, r4, rf⟩ := id R
        obtain ⟨kl, k0, k1, k2, k3, k4, kf⟩ := id K
        go_wp2_with fail
        have P := R.put (.int .i64 1) (.string ⟨#[]⟩) (.string ⟨#[]⟩) (.bool true) (.int .i64 k)
        have B9 := put_below B1 (Nat.le_refl _) (.int .i64 1) (.string ⟨#[]⟩) (.string ⟨#[]⟩) (.bool true) (.int .i64 k)
        clear B1 R K r0 r1 r2 r3 r4 k0 k1 k2 k3 k4
        generalize World.setCell _ ⟨w.heap.size, 4, none⟩ _ = w9 at *
        obtain ⟨_, p0, p1, p2, p3, p4, _⟩ := P
        refine bodyPost_ret (v := .tuple #[nv 1 ⟨#[]⟩ true k, .bool true]) ?_ rfl ⟨by rw [hw], B9⟩
        simp [results, Tryz.results6, go_sem, p0, p1, p2, p3, p4, nv]
      · have hno2 := Lib.hid (none_more hno q)
        have q5 : (s.toList == fixL k) = false := beq_eq_false_iff_ne.2 (fun h => q h.symm)
        rw [← fix_app] at q5
        clear hno q
        obtain ⟨rl, r0, r1, r2, r3, r4, rf⟩ := id R
        obtain ⟨kl, k0, k1, k2, k3, k4, kf⟩ := id K
        go_wp2_with fail
        refine (HD _).mono ?_
        rintro e w1 ⟨rfl, hb⟩
        have R2 := R.below hb
        have K2 := K.below hb
        have B2 := B1.trans (hb.mono B1.size)
        clear R K B1 hb r0 r1 r2 r3 r4 rf rl k0 k1 k2 k3 k4 kf kl
        go_wp2_with fail
        all_goals
          go_round
          case rel => exact ⟨k + 1, by simp [go_sem], by omega, hno2.out, R2, K2, B2⟩
          case measure => simp [intOf]; omega
set_option maxHeartbeats 8000000 in
set_option maxRecDepth 100000 in
theorem ref_c (s : ByteArray) (hs : s.size ≤ 281474976710656) (hn : None5 s) (v : Value) (hy : ∀ n, n < 41 → fixL n = s.toList → v = .tuple #[nv 1 ⟨#[]⟩ true n, .bool true]) (hv : (∀ n, n < 41 → fixL n ≠ s.toList) → v = .tuple #[nv 0 ⟨#[]⟩ false 0, .bool false]) (hz : s.size = 12) (q5 : ((s.extract 0 9).toList == [99, 117, 114, 114, 101, 110, 99, 121, 47]) = true) (q6 : allB letB (s.extract 9 12) = false) (w : World) :
    Calls Tryz.prog 6 #[.string s] w fun e w' => e = .returned (v) ∧ Below w.heap.size w w' := by
  have HY := Lib.hid hy
  have HN := Lib.hid hv
  clear hy hv
  have z0 : (s.size : Int) = 12 := by omega
  have z1 : ¬ s.size < 9 := by omega
  have HL := refLetters_any (s.extract 9 12) (by simp; omega)
  rw [q6] at HL
  clear q6
  obtain ⟨q0, q1, q2, q3, q4⟩ := hn
  have R0 := (Blk5.new w (.int .i64 0) (.string ⟨#[]⟩) (.string ⟨#[]⟩) (.bool false) (.int .i64 0) 24).alloc #[.int .i64 1, .string ⟨#[]⟩, .string ⟨#[]⟩, .bool false, .int .i64 0] 24
  have K0 := Blk5.new (w.alloc (.cells #[.int .i64 0, .string ⟨#[]⟩, .string ⟨#[]⟩, .bool false, .int .i64 0] 24)) (.int .i64 1) (.string ⟨#[]⟩) (.string ⟨#[]⟩) (.bool false) (.int .i64 0) 24
  simp only [World.size_alloc] at K0
  have B0 : Below w.heap.size w ((w.alloc (.cells #[.int .i64 0, .string ⟨#[]⟩, .string ⟨#[]⟩, .bool false, .int .i64 0] 24)).alloc (.cells #[.int .i64 1, .string ⟨#[]⟩, .string ⟨#[]⟩, .bool false, .int .i64 0] 24)) := ((Below.refl _ _).alloc (Nat.le_refl _) _).alloc (by simp) _
  go_enter Tryz.func6, Tryz.ntmps6
  go_wp2_with fail
  generalize (w.alloc (.cells #[.int .i64 0, .string ⟨#[]⟩, .string ⟨#[]⟩, .bool false, .int .i64 0] 24)).alloc (.cells #[.int .i64 1, .string ⟨#[]⟩, .string ⟨#[]⟩, .bool false, .int .i64 0] 24) = w0 at *
  refine (HL _).mono ?_
  rintro e w1 ⟨rfl, rfl⟩
  go_wp2_with fail
  have R := R0
  have K := K0
  have B1 := B0
  clear R0 K0 B0
  go_loopw [5] (fun u wr => ∃ k : Nat, u = .int .i64 k ∧ k ≤ 41 ∧ (∀ j, j < k → fixL j ≠ s.toList) ∧ Blk5 w.heap.size wr (.int .i64 0) (.string ⟨#[]⟩) (.string ⟨#[]⟩) (.bool false) (.int .i64 0) ∧ Blk5 (w.heap.size + 1) wr (.int .i64 1) (.string ⟨#[]⟩) (.string ⟨#[]⟩) (.bool false) (.int .i64 0) ∧ Below w.heap.size w wr) (fun u _ => 41 - (intOf u).toNat)
  case atStart => exact ⟨0, rfl, by omega, fun j hj => by omega, R, K, B1⟩
  case round =>
    clear R K B1
    obtain ⟨k, rfl, hk, hno, R, K, B1⟩ := hrel
    by_cases e : k = 41
    · subst e
      have hw := HN.out hno
      clear hno
      obtain ⟨rl, r0, r1, r2, r3, r4, rf⟩ := id R
      obtain ⟨kl, k0, k1, k2, k3, k4, kf⟩ := id K
      go_wp2_with fail
      have P := R.put (.int .i64 0) (.string ⟨#[]⟩) (.string ⟨#[]⟩) (.bool false) (.int .i64 0)
      have B9 := put_below B1 (Nat.le_refl _) (.int .i64 0) (.string ⟨#[]⟩) (.string ⟨#[]⟩) (.bool false) (.int .i64 0)
      clear B1 R K r0 r1 r2 r3 r4 k0 k1 k2 k3 k4
      generalize World.setCell _ ⟨w.heap.size, 4, none⟩ _ = w9 at *
      obtain ⟨_, p0, p1, p2, p3, p4, _⟩ := P
      refine bodyPost_ret (v := .tuple #[nv 0 ⟨#[]⟩ false 0, .bool false]) ?_ rfl ⟨by rw [hw], B9⟩
      simp [results, Tryz.results6, go_sem, p0, p1, p2, p3, p4, nv]
    · have HD := digits_yes k (by omega)
      have g0 : (k : Int) ≤ 40 := by omega
      have g6 : ¬ 9223372036854775807 < 6 + (Lib.decDigits k).length := by have := dec_size k (by omega); omega
      by_cases q : fixL k = s.toList
      · have hw := HY.out k (by omega) q
        have q5 : (s.toList == fixL k) = true := by rw [q]; exact beq_self_eq_true _
        rw [← fix_app] at q5
        clear hno q e
        obtain ⟨rl, r0, r1, r2, r3, r4, rf⟩ := id R
        obtain ⟨kl, k0, k1, k2, k3, k4, kf⟩ := id K
        go_wp2_with fail
        refine (HD _).mono ?_
        rintro e w1 ⟨rfl, hb⟩
        have R2 := R.below hb
        have K2 := K.below hb
        have B2 := B1.trans (hb.mono B1.size)
        clear R K B1 hb r0 r1 r2 r3 r4 rf rl k0 k1 k2 k3 k4 kf kl
        have R := R2
        have K := K2
        have B1 := B2
        clear R2 K2 B2
        obtain ⟨rl, r0, r1, r2, r3, r4, rf⟩ := id R
        obtain ⟨kl, k0, k1, k2, k3, k4, kf⟩ := id K
        go_wp2_with fail
        have R3 := (R.other (Nat.lt_succ_self _) 3 (.bool true)).other (Nat.lt_succ_self _) 4 (.int .i64 k)
        have K3 := (K.set3 (.bool true)).set4 (.int .i64 k)
        have B3 := (B1.setCell (p := ⟨w.heap.size + 1, 3, none⟩) (Nat.le_succ _) (.bool true)).setCell (p := ⟨w.heap.size + 1, 4, none⟩) (Nat.le_succ _) (.int .i64 k)
        clear R K B1 r0 r1 r2 r3 r4 rf rl k0 k1 k2 k3 k4 kf kl
        generalize World.setCell _ ⟨w.heap.size + 1, 4, none⟩ _ = w3 at *
        have R := R3
        have K := K3
        have B1 := B3
        clear R3 K3 B3
        obtain ⟨rl, r0, r1, r2, r3, r4, rf⟩ := id R
        obtain ⟨kl, k0, k1, k2, k3, k4, kf⟩ := id K
        go_wp2_with fail
        have P := R.put (.int .i64 1) (.string ⟨#[]⟩) (.string ⟨#[]⟩) (.bool true) (.int .i64 k)
        have B9 := put_below B1 (Nat.le_refl _) (.int .i64 1) (.string ⟨#[]⟩) (.string ⟨#[]⟩) (.bool true) (.int .i64 k)
        clear B1 R K r0 r1 r2 r3 r4 k0 k1 k2 k3 k4
        generalize World.setCell _ ⟨w.heap.size, 4, none⟩ _ = w9 at *
        obtain ⟨_, p0, p1, p2, p3, p4, _⟩ := P
        refine bodyPost_ret (v := .tuple #[nv 1 ⟨#[]⟩ true k, .bool true]) ?_ rfl ⟨by rw [hw], B9⟩
        simp [results, Tryz.results6, go_sem, p0, p1, p2, p3, p4, nv]
      · have hno2 := Lib.hid (none_more hno q)
        have q5 : (s.toList == fixL k) = false := beq_eq_false_iff_ne.2 (fun h => q h.symm)
        rw [← fix_app] at q5
        clear hno q
        obtain ⟨rl, r0, r1, r2, r3, r4, rf⟩ := id R
        obtain ⟨kl, k0, k1, k2, k3, k4, kf⟩ := id K
        go_wp2_with fail
        refine (HD _).mono ?_
        rintro e w1 ⟨rfl, hb⟩
        have R2 := R.below hb
        have K2 := K.below hb
        have B2 := B1.trans (hb.mono B1.size)
        clear R K B1 hb r0 r1 r2 r3 r4 rf rl k0 k1 k2 k3 k4 kf kl
        go_wp2_with fail
        all_goals
          go_round
          case rel => exact ⟨k + 1, by simp [go_sem], by omega, hno2.out, R2, K2, B2⟩
          case measure => simp [intOf]; omega
set_option maxHeartbeats 8000000 in
set_option maxRecDepth 100000 in
theorem ref_cur (s : ByteArray) (hs : s.size ≤ 281474976710656) (hn : None5 s) (hz : s.size = 12) (q5 : ((s.extract 0 9).toList == [99, 117, 114, 114, 101, 110, 99, 121, 47]) = true) (q6 : allB letB (s.extract 9 12) = true) (w : World) :
    Calls Tryz.prog 6 #[.string s] w fun e w' => e = .returned (.tuple #[nv 3 (turnS 97 (s.extract 9 12)) false 0, .bool true]) ∧ Below w.heap.size w w' := by
  have z0 : (s.size : Int) = 12 := by omega
  have z1 : ¬ s.size < 9 := by omega
  have hl : (s.extract 9 12).size ≤ 281474976710656 := by simp; omega
  have HL := refLetters_any (s.extract 9 12) hl
  rw [q6] at HL
  have HU := High_any (s.extract 9 12) hl
  generalize turnS 97 (s.extract 9 12) = t1 at *
  clear q6 hl
  obtain ⟨q0, q1, q2, q3, q4⟩ := hn
  have R0 := (Blk5.new w (.int .i64 0) (.string ⟨#[]⟩) (.string ⟨#[]⟩) (.bool false) (.int .i64 0) 24).alloc #[.int .i64 1, .string ⟨#[]⟩, .string ⟨#[]⟩, .bool false, .int .i64 0] 24
  have K0 := Blk5.new (w.alloc (.cells #[.int .i64 0, .string ⟨#[]⟩, .string ⟨#[]⟩, .bool false, .int .i64 0] 24)) (.int .i64 1) (.string ⟨#[]⟩) (.string ⟨#[]⟩) (.bool false) (.int .i64 0) 24
  simp only [World.size_alloc] at K0
  have B0 : Below w.heap.size w ((w.alloc (.cells #[.int .i64 0, .string ⟨#[]⟩, .string ⟨#[]⟩, .bool false, .int .i64 0] 24)).alloc (.cells #[.int .i64 1, .string ⟨#[]⟩, .string ⟨#[]⟩, .bool false, .int .i64 0] 24)) := ((Below.refl _ _).alloc (Nat.le_refl _) _).alloc (by simp) _
  go_enter Tryz.func6, Tryz.ntmps6
  go_wp2_with fail
  generalize (w.alloc (.cells #[.int .i64 0, .string ⟨#[]⟩, .string ⟨#[]⟩, .bool false, .int .i64 0] 24)).alloc (.cells #[.int .i64 1, .string ⟨#[]⟩, .string ⟨#[]⟩, .bool false, .int .i64 0] 24) = w0 at *
  refine (HL _).mono ?_
  rintro e w1 ⟨rfl, rfl⟩
  have R := R0
  have K := K0
  have B1 := B0
  clear R0 K0 B0
  obtain ⟨rl, r0, r1, r2, r3, r4, rf⟩ := id R
  obtain ⟨kl, k0, k1, k2, k3, k4, kf⟩ := id K
  go_wp2_with fail
  have R2 := R.other (Nat.lt_succ_self _) 0 (.int .i64 3)
  have K2 := K.set0 (.int .i64 3)
  have B2 := B1.setCell (p := ⟨w.heap.size + 1, 0, none⟩) (Nat.le_succ _) (.int .i64 3)
  clear R K B1 r0 r1 r2 r3 r4 rf rl k0 k1 k2 k3 k4 kf kl
  generalize World.setCell _ ⟨w.heap.size + 1, 0, none⟩ _ = w2 at *
  have R := R2
  have K := K2
  have B1 := B2
  clear R2 K2 B2
  refine (HU _).mono ?_
  rintro e w3 ⟨rfl, hb⟩
  have R2 := R.below hb
  have K2 := K.below hb
  have B2 := B1.trans (hb.mono B1.size)
  clear R K B1 hb
  have R := R2
  have K := K2
  have B1 := B2
  clear R2 K2 B2
  obtain ⟨rl, r0, r1, r2, r3, r4, rf⟩ := id R
  obtain ⟨kl, k0, k1, k2, k3, k4, kf⟩ := id K
  go_wp2_with fail
  have R3 := R.other (Nat.lt_succ_self _) 1 (.string t1)
  have K3 := K.set1 (.string t1)
  have B3 := B1.setCell (p := ⟨w.heap.size + 1, 1, none⟩) (Nat.le_succ _) (.string t1)
  clear R K B1 r0 r1 r2 r3 r4 rf rl k0 k1 k2 k3 k4 kf kl
  generalize World.setCell _ ⟨w.heap.size + 1, 1, none⟩ _ = w4 at *
  have R := R3
  have K := K3
  have B1 := B3
  clear R3 K3 B3
  obtain ⟨rl, r0, r1, r2, r3, r4, rf⟩ := id R
  obtain ⟨kl, k0, k1, k2, k3, k4, kf⟩ := id K
  go_wp2_with fail
  have P := R.put (.int .i64 3) (.string t1) (.string ⟨#[]⟩) (.bool false) (.int .i64 0)
  have B9 := put_below B1 (Nat.le_refl _) (.int .i64 3) (.string t1) (.string ⟨#[]⟩) (.bool false) (.int .i64 0)
  clear B1 R K r0 r1 r2 r3 r4 k0 k1 k2 k3 k4
  generalize World.setCell _ ⟨w.heap.size, 4, none⟩ _ = w9 at *
  obtain ⟨_, p0, p1, p2, p3, p4, _⟩ := P
  refine bodyPost_ret (v := .tuple #[nv 3 t1 false 0, .bool true]) ?_ rfl ⟨rfl, B9⟩
  simp [results, Tryz.results6, go_sem, p0, p1, p2, p3, p4, nv]
end Go.Proofs.YtnakbibdljdlcaaGreatDoor
