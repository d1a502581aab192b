/-
  dec.Check and dec.Neg at decimals as the program makes them. Conditions: sizes.
-/
import Derived.Test.YtpfldlbdmhhjdaaGreatDoorDk
set_option linter.unusedVariables false
namespace Go.Proofs.YtpfldlbdmhhjdaaGreatDoor
open Go.RowKit Go.Fl Go.Sort
set_option maxRecDepth 100000 in
set_option maxHeartbeats 1500000 in
theorem Check_any (nb : Bool) (s : ByteArray) (D : List Nat) (hD : Dig D) (hs : s.data.toList = chM D) (h0 : 0 < D.length) (hn : D.length ≤ 400) (hz : D[0]'h0 = 0 → D.length = 1 ∧ nb = false) (sc : Nat) (hsc : sc ≤ 400) (w : World) :
    Calls Tryz.prog 18 #[.agg #[.bool nb, .string s, .int .i64 sc]] w fun e w' => e = .returned (.int .i64 0) ∧ w' = w.alloc (.cells #[.bool nb, .string s, .int .i64 (sc : Int)] 27) := by
  have hsz := size_of hs
  have hb1 := (Below.refl w.heap.size w).alloc (Nat.le_refl _) (.cells #[.bool nb, .string s, .int .i64 (sc : Int)] 27)
  have hget : ∀ j (h : j < s.size), (s[j].toNat : Int) = 48 + ((D[j]'(by omega) : Nat) : Int) := fun j h => by
    have e : s[j] = (chM D)[j]'(by rw [chM_len]; omega) := by
      have : s[j] = s.data.toList[j]'(by rw [Array.length_toList]; exact h) := by simp [ByteArray.getElem_eq_getElem_data]
      rw [this]
      simp only [hs]
    rw [e]
    have e2 : (chM D)[j]'(by rw [chM_len]; omega) = chr (D[j]'(by omega)) := by simp [chM]
    rw [e2]
    exact chr_int (dig_get hD (by omega))
  have hg0 := hget 0 (by omega)
  have hd0 := dig_get hD h0
  have h1n : ¬ (D.length : Int) < 1 := by omega
  have h2n : ¬ 400 < (D.length : Int) := by omega
  have h3n : ¬ (sc : Int) < 0 := by omega
  have h4n : ¬ 400 < (sc : Int) := by omega
  have h5n : 0 < D.length := h0
  have key : (¬ (s[0]'(by omega)).toNat = 48) ∨ ((¬ 1 < (D.length : Int)) ∧ nb = false) := by
    by_cases hd : D[0]'h0 = 0
    · exact .inr ⟨by have := (hz hd).1; omega, (hz hd).2⟩
    · refine .inl ?_
      omega
  have HGET := Lib.hid hget
  clear hget hg0
  rcases key with hk | ⟨hk, rfl⟩
  · go_enter Tryz.func18, Tryz.ntmps18
    go_wp2_with fail
    all_goals
      go_loopw [4] (fun u wr => ∃ j : Nat, u = .int .i64 j ∧ j ≤ D.length ∧ wr = w.alloc (.cells #[.bool nb, .string s, .int .i64 (sc : Int)] 27)) (fun u _ => D.length - (intOf u).toNat)
      case atStart => exact ⟨0, rfl, by omega, rfl⟩
      case round =>
        obtain ⟨j, rfl, hj, rfl⟩ := hrel
        by_cases hlt : j < D.length
        · have q := HGET.out j (by omega)
          have qd := dig_get hD hlt
          have q1 : ¬ (s[j]'(by omega)).toNat < 48 := by omega
          have q2 : ¬ 57 < (s[j]'(by omega)).toNat := by omega
          have q3 : (0 : Int) ≤ (j : Int) := by omega
          have q4 : (j : Int) < (D.length : Int) := by omega
          clear q qd
          go_wp2_with fail
          go_roundw
          case rel => first | exact ⟨j + 1, by go_num, by omega, rfl⟩ | exact ⟨j + 1, by go_num, by omega⟩ | exact ⟨j + 1, by go_num, by omega, trivial⟩ | (refine ⟨j + 1, ?_⟩; simp; omega)
          case measure => simp [intOf]; omega
        · obtain rfl : j = D.length := by omega
          have q4 : ¬ (D.length : Int) < (D.length : Int) := by omega
          go_wp2_with fail
          refine bodyPost_ret (v := .int .i64 0) ?_ rfl ⟨rfl, rfl⟩
          simp [results, Tryz.results18, go_sem]
  · go_enter Tryz.func18, Tryz.ntmps18
    go_wp2_with fail
    all_goals
      go_loopw [4] (fun u wr => ∃ j : Nat, u = .int .i64 j ∧ j ≤ D.length ∧ wr = w.alloc (.cells #[.bool false, .string s, .int .i64 (sc : Int)] 27)) (fun u _ => D.length - (intOf u).toNat)
      case atStart => exact ⟨0, rfl, by omega, rfl⟩
      case round =>
        obtain ⟨j, rfl, hj, rfl⟩ := hrel
        by_cases hlt : j < D.length
        · have q := HGET.out j (by omega)
          have qd := dig_get hD hlt
          have q1 : ¬ (s[j]'(by omega)).toNat < 48 := by omega
          have q2 : ¬ 57 < (s[j]'(by omega)).toNat := by omega
          have q3 : (0 : Int) ≤ (j : Int) := by omega
          have q4 : (j : Int) < (D.length : Int) := by omega
          clear q qd
          go_wp2_with fail
          go_roundw
          case rel => first | exact ⟨j + 1, by go_num, by omega, rfl⟩ | exact ⟨j + 1, by go_num, by omega⟩ | exact ⟨j + 1, by go_num, by omega, trivial⟩ | (refine ⟨j + 1, ?_⟩; simp; omega)
          case measure => simp [intOf]; omega
        · obtain rfl : j = D.length := by omega
          have q4 : ¬ (D.length : Int) < (D.length : Int) := by omega
          go_wp2_with fail
          refine bodyPost_ret (v := .int .i64 0) ?_ rfl ⟨rfl, rfl⟩
          simp [results, Tryz.results18, go_sem]
end Go.Proofs.YtpfldlbdmhhjdaaGreatDoor
