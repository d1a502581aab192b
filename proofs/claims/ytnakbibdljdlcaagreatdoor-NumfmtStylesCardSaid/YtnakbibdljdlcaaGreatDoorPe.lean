/-
  Contracts of vernacularref02's Letter, Letters and High. Condition: the text is short enough to be in memory.
-/
import Derived.Test.YtnakbibdljdlcaaGreatDoorPa
set_option linter.unusedVariables false
namespace Go.Proofs.YtnakbibdljdlcaaGreatDoor
open Go.RowKit Go.Vx
set_option maxRecDepth 100000 in
theorem refLetter_any (b : UInt8) (w : World) : Calls Tryz.prog 28 #[.int .u8 b.toNat] w fun e w' => e = .returned (.bool (letB b)) ∧ w' = w := by
  have hl : letB b = ((65 ≤ b.toNat && b.toNat ≤ 90) || (97 ≤ b.toNat && b.toNat ≤ 122)) := rfl
  generalize letB b = q at *
  by_cases h1 : (97 : Int) ≤ (b.toNat : Int)
  · by_cases h2 : (b.toNat : Int) ≤ 122
    · have e : q = true := by rw [hl]; simp; omega
      subst e
      clear hl
      go_enter Tryz.func28, Tryz.ntmps28
      go_wp2
      refine bodyPost_ret (v := .bool true) ?_ rfl ⟨rfl, rfl⟩
      simp [results, Tryz.results28, go_sem]
    · have e : q = false := by rw [hl]; simp; omega
      have h3 : (65 : Int) ≤ (b.toNat : Int) := by omega
      have h4 : ¬ (b.toNat : Int) ≤ 90 := by omega
      subst e
      clear hl
      go_enter Tryz.func28, Tryz.ntmps28
      go_wp2
      refine bodyPost_ret (v := .bool false) ?_ rfl ⟨rfl, rfl⟩
      simp [results, Tryz.results28, go_sem]
  · by_cases h3 : (65 : Int) ≤ (b.toNat : Int)
    · by_cases h4 : (b.toNat : Int) ≤ 90
      · have e : q = true := by rw [hl]; simp; omega
        subst e
        clear hl
        go_enter Tryz.func28, Tryz.ntmps28
        go_wp2
        refine bodyPost_ret (v := .bool true) ?_ rfl ⟨rfl, rfl⟩
        simp [results, Tryz.results28, go_sem]
      · have e : q = false := by rw [hl]; simp; omega
        subst e
        clear hl
        go_enter Tryz.func28, Tryz.ntmps28
        go_wp2
        refine bodyPost_ret (v := .bool false) ?_ rfl ⟨rfl, rfl⟩
        simp [results, Tryz.results28, go_sem]
    · have e : q = false := by rw [hl]; simp; omega
      subst e
      clear hl
      go_enter Tryz.func28, Tryz.ntmps28
      go_wp2
      refine bodyPost_ret (v := .bool false) ?_ rfl ⟨rfl, rfl⟩
      simp [results, Tryz.results28, go_sem]
set_option maxRecDepth 100000 in
set_option maxHeartbeats 1000000 in
theorem refLetters_any (s : ByteArray) (hs : s.size ≤ 281474976710656) (w : World) :
    Calls Tryz.prog 12 #[.string s] w fun e w' => e = .returned (.bool (allB letB s)) ∧ w' = w := by
  go_enter Tryz.func12, Tryz.ntmps12
  go_wp2_with fail
  go_loopw [3] (fun u wr => ∃ i : Nat, u = .int .i64 i ∧ i ≤ s.size ∧ wr = w ∧ ∀ j (hj : j < s.size), j < i → letB s[j] = true) (fun u _ => s.size - (intOf u).toNat)
  case atStart => exact ⟨0, rfl, by omega, rfl, fun j hj h => by omega⟩
  case round =>
    obtain ⟨i, rfl, hi, rfl, hp⟩ := hrel
    have HP := Lib.hid hp
    clear hp
    by_cases h : i < s.size
    · have hc := refLetter_any s[i]
      cases hf : letB s[i] with
      | true =>
        rw [hf] at hc
        have HQ := Lib.hid (all_take h HP.out hf)
        clear hf
        go_wp2_with fail
        refine (hc _).mono ?_
        rintro e w1 ⟨rfl, rfl⟩
        go_wp2_with fail
        go_roundw
        case rel => exact ⟨i + 1, by go_num, by omega, by trivial, HQ.out⟩
        case measure => simp [intOf]; omega
      | false =>
        rw [hf] at hc
        have hn := all_no h hf
        clear hf
        go_wp2_with fail
        refine (hc _).mono ?_
        rintro e w1 ⟨rfl, rfl⟩
        go_wp2_with fail
        refine bodyPost_ret (v := .bool false) ?_ rfl ⟨by rw [hn], rfl⟩
        simp [results, Tryz.results12, go_sem]
    · have hy := all_yes (f := letB) (s := s) fun j hj => HP.out j hj (by omega)
      have hz := isEmpty_dec s
      by_cases z : s.size = 0
      · have z1 : s.toList.isEmpty = true := by rw [hz]; simpa using z
        rw [decide_eq_false (by simpa using z)] at hy
        clear hz
        go_wp2_with fail
        refine bodyPost_ret (v := .bool false) ?_ rfl ⟨by rw [hy], rfl⟩
        simp [results, Tryz.results12, go_sem]
      · have z1 : s.toList.isEmpty = false := by rw [hz]; simpa using z
        rw [decide_eq_true (by simpa using z)] at hy
        clear hz
        go_wp2_with fail
        refine bodyPost_ret (v := .bool true) ?_ rfl ⟨by rw [hy], rfl⟩
        simp [results, Tryz.results12, go_sem]
theorem sub32 : ∀ n : Nat, n < 256 → 97 ≤ n → n ≤ 122 → IntKind.u8.wrap ((n : Int) - 32) = (((UInt8.ofNat n) ^^^ 32).toNat : Int) := by decide +kernel
set_option maxRecDepth 100000 in
set_option maxHeartbeats 4000000 in
theorem High_any (s : ByteArray) (hs : s.size ≤ 281474976710656) (w : World) : Calls Tryz.prog 13 #[.string s] w fun e w' => e = .returned (.string (turnS 97 s)) ∧ Below w.heap.size w w' := by
  have hcv := fun w1 : World => Lib.run_convert_string_bytes (P := Tryz.prog) w1 9 71 5 s Tryz.underlying9 Tryz.underlying71 Tryz.underlying5
  have h0 : Turned 97 s w.heap.size 0 (Lib.bytesWorld w 5 s) := fun j hj => by
    refine ⟨?_, ?_⟩
    · rw [Lib.bytesWorld_cell w 5 s j hj, get_list hj, if_neg (by omega)]
    · have hh := Lib.bytesWorld_at_new w 5 s
      have hz : s.size ≤ (Lib.bytesCells w 5 s).size := by simp [Lib.bytesCells]
      simp [World.frozen?, hh]
      omega
  have hb0 : Below w.heap.size w (Lib.bytesWorld w 5 s) := ⟨rfl, rfl, rfl, by rw [Lib.bytesWorld_size]; omega, fun k hk => Lib.bytesWorld_at_old w 5 s k hk⟩
  have hz0 := Lib.bytesWorld_size w 5 s
  generalize hX : Lib.bytesWorld w 5 s = X at *
  have hcv1 := hcv w
  rw [hX] at hcv1
  clear hcv
  go_enter Tryz.func13, Tryz.ntmps13
  go_wp2_with fail
  go_loopw [10] (fun u wr => ∃ i : Nat, u = .int .i64 i ∧ i ≤ s.size ∧ Turned 97 s w.heap.size i wr ∧ Below w.heap.size w wr) (fun u _ => s.size - (intOf u).toNat)
  case atStart => exact ⟨0, rfl, by omega, h0, hb0⟩
  case round =>
    clear h0 hb0
    obtain ⟨i, rfl, hi, hT, hb⟩ := hrel
    by_cases h : i < s.size
    · obtain ⟨c0, f0⟩ := hT i h
      rw [if_neg (Nat.lt_irrefl _)] at c0
      have hofn : UInt8.ofNat s[i].toNat = s[i] := by simp
      have hx0 := sub32 s[i].toNat (UInt8.toNat_lt _)
      rw [hofn] at hx0
      have HT := Lib.hid hT
      clear hT hofn
      by_cases g1 : 97 ≤ s[i].toNat
      · have k1 : (97 : Int) ≤ (s[i].toNat : Int) := by omega
        by_cases g2 : s[i].toNat ≤ 122
        · have k2 : (s[i].toNat : Int) ≤ 122 := by omega
          have hx := hx0 g1 g2
          have e : turnB 97 s[i] = s[i] ^^^ 32 := by unfold turnB; rw [if_pos ⟨g1, by show _ < 97 + 26; omega⟩]
          rw [← e] at hx
          have HS := Lib.hid (HT.out.set h)
          clear e g1 g2 hx0
          go_wp2_with fail
          go_roundw
          case rel => exact ⟨i + 1, by go_num, by omega, HS.out, hb.setCell (by simp) _⟩
          case measure => simp [intOf]; omega
        · have k2 : ¬ (s[i].toNat : Int) ≤ 122 := by omega
          have e : turnB 97 s[i] = s[i] := by unfold turnB; rw [if_neg (fun c => g2 (Nat.le_of_lt_succ c.2))]
          have HS := Lib.hid (HT.out.keep h e)
          clear e g1 g2 hx0
          go_wp2_with fail
          go_roundw
          case rel => exact ⟨i + 1, by go_num, by omega, HS.out, hb⟩
          case measure => simp [intOf]; omega
      · have k1 : ¬ (97 : Int) ≤ (s[i].toNat : Int) := by omega
        have e : turnB 97 s[i] = s[i] := by unfold turnB; rw [if_neg (fun c => g1 c.1)]
        have HS := Lib.hid (HT.out.keep h e)
        clear e g1 hx0
        go_wp2_with fail
        go_roundw
        case rel => exact ⟨i + 1, by go_num, by omega, HS.out, hb⟩
        case measure => simp [intOf]; omega
    · have hlen : (s.data.toList.map (turnB 97)).length = s.size := by simp
      have hback := run_convert_bytes_back (P := Tryz.prog) wr 71 9 5 ⟨w.heap.size, 0, none⟩ (grownCap w s.size 0 5) (s.data.toList.map (turnB 97)) Tryz.underlying71 Tryz.underlying5 Tryz.underlying9 (fun j hj => by
        have hj2 : j < s.size := by rw [hlen] at hj; exact hj
        have ha : (⟨w.heap.size, 0, none⟩ : Addr).add j = ⟨w.heap.size, j, none⟩ := by
          unfold Addr.add; split
          · rename_i h; rw [h]
          · simp
        rw [ha, (hT j hj2).1, if_pos (by omega), List.getElem_map]
        rfl)
      rw [hlen] at hback
      have hr : (⟨(s.data.toList.map (turnB 97)).toArray⟩ : ByteArray) = turnS 97 s := rfl
      rw [hr] at hback
      clear hT hr
      go_wp2_with fail
      refine bodyPost_ret (v := .string (turnS 97 s)) ?_ rfl ⟨rfl, hb⟩
      simp [results, Tryz.results13, go_sem]
end Go.Proofs.YtnakbibdljdlcaaGreatDoor
