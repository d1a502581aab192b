/-
  ref03.Float. Conditions: sizes.
-/
import Derived.Test.YtpfldlbdmhhjdaaGreatDoorDq
set_option linter.unusedVariables false
namespace Go.Proofs.YtpfldlbdmhhjdaaGreatDoor
open Go.RowKit Go.Fl Go.Sort
theorem plusR_ge : ∀ (l m : List Nat) (c : Nat), m.length ≤ (plusR l m c).length
  | [], [], c => by simp
  | a :: l, [], c => by simp
  | [], b :: m, c => by
    have := plusR_ge [] m ((0 + b + c) / 10)
    simp only [plusR, List.length_cons]
    omega
  | a :: l, b :: m, c => by
    have := plusR_ge l m ((a + b + c) / 10)
    simp only [plusR, List.length_cons]
    omega
theorem plusR_pos {l m : List Nat} {c : Nat} (h : 0 < m.length) : 0 < (plusR l m c).length := Nat.lt_of_lt_of_le h (plusR_ge l m c)
set_option maxRecDepth 100000 in
set_option maxHeartbeats 1000000 in
theorem refFloat_any (N h d : Nat) (hN : N < 18014398509481984) (hh : h ≤ 1100) (hd : d ≤ 1100) (w : World) :
    Calls Tryz.prog 15 #[.int .u64 (N : Int), .int .i64 (h : Int), .int .i64 (d : Int)] w fun e w' => ∃ (v : Value) (l : List Nat), e = .returned (.tuple #[v, .int .i64 (h : Int)]) ∧ RowI w' w'.heap.size v l ∧ Dig l ∧ vL l = N * 2 ^ d * 5 ^ h ∧ 0 < l.length ∧ l.length ≤ 20 + d + 3 * h ∧ Below w.heap.size w w' := by
  have HR := fun W : World => Row_any [0] (dig_cons.2 ⟨by decide, dig_nil⟩) (by decide) ⟨#[48]⟩ rfl W
  by_cases hz : 0 < N
  · have HW := fun W : World => whole_any N hz hN W
    have q : (0 : Int) < (N : Int) := by omega
    go_enter Tryz.func15, Tryz.ntmps15
    go_wp2_with fail
    refine (HR _).mono ?_
    rintro e w1 ⟨v1, rfl, _, hb1⟩
    go_wp2_with fail
    refine (HW _).mono ?_
    rintro e w2 ⟨s, l0, rfl, hD0, hs0, hv0, hp0, hl0, hb2⟩
    have hB2 := hb1.trans (hb2.mono hb1.size)
    clear HR HW hb1 hb2
    go_wp2_with fail
    refine (Row_any l0 hD0 (by omega) s hs0 w2).mono ?_
    rintro e w3 ⟨v3, rfl, hr0, hb3⟩
    have hb0 := hB2.trans (hb3.mono hB2.size)
    clear hB2 hb3 hs0
    go_wp2_with fail
    go_loopw [8, 9] (fun u v wr => ∃ (i : Nat) (l : List Nat), v = .int .i64 i ∧ i ≤ d ∧ RowI wr wr.heap.size u l ∧ Dig l ∧ vL l = N * 2 ^ i ∧ 0 < l.length ∧ l.length ≤ 20 + i ∧ Below w.heap.size w wr) (fun _ v _ => d - (intOf v).toNat)
    case atStart => exact ⟨0, l0, rfl, by omega, hr0, hD0, by rw [Nat.pow_zero, Nat.mul_one]; exact hv0, hp0, by omega, hb0⟩
    case round =>
      clear hr0 hD0 hv0 hp0 hl0 hb0
      obtain ⟨i, l, rfl, hi, hr, hD, hv, hp, hl, hb⟩ := hrel
      by_cases hlt : i < d
      · have q0 : (i : Int) < (d : Int) := by omega
        have HV := Lib.hid hv
        clear hv
        go_wp2_with fail
        refine (Plus_any _ _ l l wr.heap.size hD hD (by omega) (by omega) wr hr hr (Nat.le_refl _)).mono ?_
        rintro e w1 ⟨v1, rfl, hr1, hb1⟩
        have hl1 := plusR_len l l 0
        rw [Nat.max_self] at hl1
        have hrel2 : RowI w1 w1.heap.size v1 (plusR l l 0) ∧ Dig (plusR l l 0) ∧ vL (plusR l l 0) = N * 2 ^ (i + 1) ∧ 0 < (plusR l l 0).length ∧ (plusR l l 0).length ≤ 20 + (i + 1) ∧ Below w.heap.size w w1 :=
          ⟨hr1, plusR_dig l l 0 hD hD (by decide), by rw [plusR_val, HV.out, Nat.pow_succ, ← Nat.mul_assoc]; omega, plusR_pos hp, by omega, hb.trans (hb1.mono hb.size)⟩
        clear hr1 hb1 hl1
        go_wp2_with fail
        go_roundw
        case rel => exact ⟨i + 1, plusR l l 0, by go_num, by omega, hrel2⟩
        case measure => simp [intOf]; omega
      · obtain rfl : i = d := by omega
        have q0 : ¬ (i : Int) < (i : Int) := by omega
        have HV := Lib.hid hv
        clear hv
        go_wp2_with fail
        go_loopw [8, 10, 11] (fun u v _ wr => ∃ (j : Nat) (l : List Nat), v = .int .i64 j ∧ j ≤ h ∧ RowI wr wr.heap.size u l ∧ Dig l ∧ vL l = N * 2 ^ i * 5 ^ j ∧ 0 < l.length ∧ l.length ≤ 20 + i + 3 * j ∧ Below w.heap.size w wr) (fun _ v _ _ => h - (intOf v).toNat)
        case atStart => exact ⟨0, l, rfl, by omega, hr, hD, by rw [Nat.pow_zero, Nat.mul_one]; exact HV.out, hp, by omega, hb⟩
        case round =>
          clear hr hD hp hl hb HV
          obtain ⟨j, l, rfl, hj, hr, hD, hv, hp, hl, hb⟩ := hrel
          have HV := Lib.hid hv
          clear hv
          by_cases hlt : j < h
          · have q1 : (j : Int) < (h : Int) := by omega
            go_wp2_with fail
            refine (Plus_any _ _ l l wr.heap.size hD hD (by omega) (by omega) wr hr hr (Nat.le_refl _)).mono ?_
            rintro e w1 ⟨v1, rfl, hr1, hb1⟩
            have hl1 := plusR_len l l 0
            have hd1 := plusR_dig l l 0 hD hD (by decide)
            have hv1 := Lib.hid (plusR_val l l 0)
            have hra := (hr.below hb1).more hb1.size
            rw [Nat.max_self] at hl1
            generalize plusR l l 0 = l1 at *
            have hB1 := hb.trans (hb1.mono hb.size)
            clear hr hb hb1
            go_wp2_with fail
            refine (Plus_any _ _ l l w1.heap.size hD hD (by omega) (by omega) w1 hra hra (Nat.le_refl _)).mono ?_
            rintro e w2 ⟨v2, rfl, hr2, hb2⟩
            have hl2 := plusR_len l l 0
            have hd2 := plusR_dig l l 0 hD hD (by decide)
            have hv2 := Lib.hid (plusR_val l l 0)
            have hrb := (hra.below hb2).more hb2.size
            have hr1b := (hr1.below hb2).more hb2.size
            rw [Nat.max_self] at hl2
            generalize plusR l l 0 = l2 at *
            have hB2 := hB1.trans (hb2.mono hB1.size)
            clear hra hr1 hb2 hB1
            go_wp2_with fail
            refine (Plus_any _ _ l1 l2 w2.heap.size hd1 hd2 (by omega) (by omega) w2 hr1b hr2 (Nat.le_refl _)).mono ?_
            rintro e w3 ⟨v3, rfl, hr3, hb3⟩
            have hl3 := plusR_len l1 l2 0
            have hd3 := plusR_dig l1 l2 0 hd1 hd2 (by decide)
            have hv3 := Lib.hid (plusR_val l1 l2 0)
            have hrc := (hrb.below hb3).more hb3.size
            generalize plusR l1 l2 0 = l3 at *
            have hB3 := hB2.trans (hb3.mono hB2.size)
            clear hr1b hr2 hrb hb3 hB2
            go_wp2_with fail
            refine (Plus_any _ _ l3 l w3.heap.size hd3 hD (by omega) (by omega) w3 hr3 hrc (Nat.le_refl _)).mono ?_
            rintro e w4 ⟨v4, rfl, hr4, hb4⟩
            have hl4 := plusR_len l3 l 0
            have hd4 := plusR_dig l3 l 0 hd3 hD (by decide)
            have hv4 := Lib.hid (plusR_val l3 l 0)
            have hp4 := plusR_ge l3 l 0
            generalize plusR l3 l 0 = l4 at *
            have hB4 := hB3.trans (hb4.mono hB3.size)
            have hval : vL l4 = N * 2 ^ i * 5 ^ (j + 1) := by
              have e1 := hv1.out
              have e2 := hv2.out
              have e3 := hv3.out
              have e4 := hv4.out
              have e5 := HV.out
              rw [Nat.pow_succ, ← Nat.mul_assoc]
              omega
            have hrel2 : RowI w4 w4.heap.size v4 l4 ∧ Dig l4 ∧ vL l4 = N * 2 ^ i * 5 ^ (j + 1) ∧ 0 < l4.length ∧ l4.length ≤ 20 + i + 3 * (j + 1) ∧ Below w.heap.size w w4 := ⟨hr4, hd4, hval, by omega, by omega, hB4⟩
            clear hr4 hd4 hval hB4 hB3 hrc hr3
            go_wp2_with fail
            go_roundw
            case rel => exact ⟨j + 1, l4, by go_num, by omega, hrel2⟩
            case measure => simp [intOf]; omega
          · obtain rfl : j = h := by omega
            have q1 : ¬ (j : Int) < (j : Int) := by omega
            go_wp2_with fail
            refine bodyPost_ret (v := .tuple #[u8, .int .i64 (j : Int)]) ?_ rfl ⟨u8, rfl, l, hr, hD, HV.out, hp, hl, hb⟩
            simp [results, Tryz.results15, go_sem]
  · have hz2 : N = 0 := by omega
    have hv0 : vL [0] = N := by rw [hz2]; rfl
    clear hz2
    have q : ¬ (0 : Int) < (N : Int) := by omega
    have q2 : decide (0 < N) = false := decide_eq_false hz
    have q3 : decide ((0 : Int) < (N : Int)) = false := decide_eq_false q
    clear hz
    have hD0 : Dig [0] := dig_cons.2 ⟨by decide, dig_nil⟩
    have hp0 : 0 < [0].length := by decide
    have hl0 : [0].length ≤ 20 := by decide
    go_enter Tryz.func15, Tryz.ntmps15
    go_wp2_with fail
    refine (HR _).mono ?_
    rintro e w1 ⟨v1, rfl, hr0, hb0⟩
    clear HR
    generalize [0] = l0 at *
    go_wp2_with fail
    go_loopw [8, 9] (fun u v wr => ∃ (i : Nat) (l : List Nat), v = .int .i64 i ∧ i ≤ d ∧ RowI wr wr.heap.size u l ∧ Dig l ∧ vL l = N * 2 ^ i ∧ 0 < l.length ∧ l.length ≤ 20 + i ∧ Below w.heap.size w wr) (fun _ v _ => d - (intOf v).toNat)
    case atStart => exact ⟨0, l0, rfl, by omega, hr0, hD0, by rw [Nat.pow_zero, Nat.mul_one]; exact hv0, hp0, by omega, hb0⟩
    case round =>
      clear hr0 hD0 hv0 hp0 hl0 hb0
      obtain ⟨i, l, rfl, hi, hr, hD, hv, hp, hl, hb⟩ := hrel
      by_cases hlt : i < d
      · have q0 : (i : Int) < (d : Int) := by omega
        have HV := Lib.hid hv
        clear hv
        go_wp2_with fail
        refine (Plus_any _ _ l l wr.heap.size hD hD (by omega) (by omega) wr hr hr (Nat.le_refl _)).mono ?_
        rintro e w1 ⟨v1, rfl, hr1, hb1⟩
        have hl1 := plusR_len l l 0
        rw [Nat.max_self] at hl1
        have hrel2 : RowI w1 w1.heap.size v1 (plusR l l 0) ∧ Dig (plusR l l 0) ∧ vL (plusR l l 0) = N * 2 ^ (i + 1) ∧ 0 < (plusR l l 0).length ∧ (plusR l l 0).length ≤ 20 + (i + 1) ∧ Below w.heap.size w w1 :=
          ⟨hr1, plusR_dig l l 0 hD hD (by decide), by rw [plusR_val, HV.out, Nat.pow_succ, ← Nat.mul_assoc]; omega, plusR_pos hp, by omega, hb.trans (hb1.mono hb.size)⟩
        clear hr1 hb1 hl1
        go_wp2_with fail
        go_roundw
        case rel => exact ⟨i + 1, plusR l l 0, by go_num, by omega, hrel2⟩
        case measure => simp [intOf]; omega
      · obtain rfl : i = d := by omega
        have q0 : ¬ (i : Int) < (i : Int) := by omega
        have HV := Lib.hid hv
        clear hv
        go_wp2_with fail
        go_loopw [8, 10, 11] (fun u v _ wr => ∃ (j : Nat) (l : List Nat), v = .int .i64 j ∧ j ≤ h ∧ RowI wr wr.heap.size u l ∧ Dig l ∧ vL l = N * 2 ^ i * 5 ^ j ∧ 0 < l.length ∧ l.length ≤ 20 + i + 3 * j ∧ Below w.heap.size w wr) (fun _ v _ _ => h - (intOf v).toNat)
        case atStart => exact ⟨0, l, rfl, by omega, hr, hD, by rw [Nat.pow_zero, Nat.mul_one]; exact HV.out, hp, by omega, hb⟩
        case round =>
          clear hr hD hp hl hb HV
          obtain ⟨j, l, rfl, hj, hr, hD, hv, hp, hl, hb⟩ := hrel
          have HV := Lib.hid hv
          clear hv
          by_cases hlt : j < h
          · have q1 : (j : Int) < (h : Int) := by omega
            go_wp2_with fail
            refine (Plus_any _ _ l l wr.heap.size hD hD (by omega) (by omega) wr hr hr (Nat.le_refl _)).mono ?_
            rintro e w1 ⟨v1, rfl, hr1, hb1⟩
            have hl1 := plusR_len l l 0
            have hd1 := plusR_dig l l 0 hD hD (by decide)
            have hv1 := Lib.hid (plusR_val l l 0)
            have hra := (hr.below hb1).more hb1.size
            rw [Nat.max_self] at hl1
            generalize plusR l l 0 = l1 at *
            have hB1 := hb.trans (hb1.mono hb.size)
            clear hr hb hb1
            go_wp2_with fail
            refine (Plus_any _ _ l l w1.heap.size hD hD (by omega) (by omega) w1 hra hra (Nat.le_refl _)).mono ?_
            rintro e w2 ⟨v2, rfl, hr2, hb2⟩
            have hl2 := plusR_len l l 0
            have hd2 := plusR_dig l l 0 hD hD (by decide)
            have hv2 := Lib.hid (plusR_val l l 0)
            have hrb := (hra.below hb2).more hb2.size
            have hr1b := (hr1.below hb2).more hb2.size
            rw [Nat.max_self] at hl2
            generalize plusR l l 0 = l2 at *
            have hB2 := hB1.trans (hb2.mono hB1.size)
            clear hra hr1 hb2 hB1
            go_wp2_with fail
            refine (Plus_any _ _ l1 l2 w2.heap.size hd1 hd2 (by omega) (by omega) w2 hr1b hr2 (Nat.le_refl _)).mono ?_
            rintro e w3 ⟨v3, rfl, hr3, hb3⟩
            have hl3 := plusR_len l1 l2 0
            have hd3 := plusR_dig l1 l2 0 hd1 hd2 (by decide)
            have hv3 := Lib.hid (plusR_val l1 l2 0)
            have hrc := (hrb.below hb3).more hb3.size
            generalize plusR l1 l2 0 = l3 at *
            have hB3 := hB2.trans (hb3.mono hB2.size)
            clear hr1b hr2 hrb hb3 hB2
            go_wp2_with fail
            refine (Plus_any _ _ l3 l w3.heap.size hd3 hD (by omega) (by omega) w3 hr3 hrc (Nat.le_refl _)).mono ?_
            rintro e w4 ⟨v4, rfl, hr4, hb4⟩
            have hl4 := plusR_len l3 l 0
            have hd4 := plusR_dig l3 l 0 hd3 hD (by decide)
            have hv4 := Lib.hid (plusR_val l3 l 0)
            have hp4 := plusR_ge l3 l 0
            generalize plusR l3 l 0 = l4 at *
            have hB4 := hB3.trans (hb4.mono hB3.size)
            have hval : vL l4 = N * 2 ^ i * 5 ^ (j + 1) := by
              have e1 := hv1.out
              have e2 := hv2.out
              have e3 := hv3.out
              have e4 := hv4.out
              have e5 := HV.out
              rw [Nat.pow_succ, ← Nat.mul_assoc]
              omega
            have hrel2 : RowI w4 w4.heap.size v4 l4 ∧ Dig l4 ∧ vL l4 = N * 2 ^ i * 5 ^ (j + 1) ∧ 0 < l4.length ∧ l4.length ≤ 20 + i + 3 * (j + 1) ∧ Below w.heap.size w w4 := ⟨hr4, hd4, hval, by omega, by omega, hB4⟩
            clear hr4 hd4 hval hB4 hB3 hrc hr3
            go_wp2_with fail
            go_roundw
            case rel => exact ⟨j + 1, l4, by go_num, by omega, hrel2⟩
            case measure => simp [intOf]; omega
          · obtain rfl : j = h := by omega
            have q1 : ¬ (j : Int) < (j : Int) := by omega
            go_wp2_with fail
            refine bodyPost_ret (v := .tuple #[u8, .int .i64 (j : Int)]) ?_ rfl ⟨u8, rfl, l, hr, hD, HV.out, hp, hl, hb⟩
            simp [results, Tryz.results15, go_sem]
end Go.Proofs.YtpfldlbdmhhjdaaGreatDoor
