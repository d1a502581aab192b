/-
  The reference's Rank, Plain and row. Condition: the text is short enough to be in memory.
-/
import Derived.Test.YtdkekhaamhphcaaGreatDoorRk
set_option linter.unusedVariables false
set_option linter.unusedSimpArgs false
namespace Go.Proofs.YtdkekhaamhphcaaGreatDoor
open Go.RowKit
theorem ba_get (l : List UInt8) (i : Nat) (h : i < (⟨l.toArray⟩ : ByteArray).size) (h2 : i < l.length) : (⟨l.toArray⟩ : ByteArray)[i] = l[i] := by
  show l.toArray[i] = _
  simp
theorem mem_get {b : UInt8} {s : ByteArray} (h : b ∈ s.data.toList) : ∃ (i : Nat) (hi : i < s.size), s[i] = b := by
  obtain ⟨i, hi, e⟩ := List.getElem_of_mem h
  refine ⟨i, by rw [← size_list]; exact hi, ?_⟩
  rw [← get_list s i (by rw [← size_list]; exact hi) hi]
  exact e
set_option maxRecDepth 100000 in
set_option maxHeartbeats 4000000 in
theorem refRank_any (b : UInt8) (w : World) : Calls Tryz.prog 20 #[.int .u8 b.toNat] w fun e w' => e = .returned (.int .i64 (rankN b.toNat : Nat)) ∧ w' = w := by
  go_enter Tryz.func20, Tryz.ntmps20
  go_wp2_with fail
  go_loopw [3] (fun u wr => ∃ r : Nat, u = .int .i64 r ∧ 1 ≤ r ∧ r ≤ 14 ∧ wr = w ∧ ∀ k, 1 ≤ k → k < r → b ∉ lettersT k) (fun u _ => 14 - (intOf u).toNat)
  case atStart => exact ⟨1, rfl, by omega, by omega, rfl, fun k h1 h2 => by omega⟩
  case round =>
    obtain ⟨r, rfl, h1, h14, rfl, hno⟩ := hrel
    have HN := Lib.hid hno
    clear hno
    by_cases hlt : r ≤ 13
    · have HL := letters_any r h1 hlt
      obtain ⟨s, hs⟩ : ∃ s : ByteArray, (⟨(lettersT r).toArray⟩ : ByteArray) = s := ⟨_, rfl⟩
      rw [hs] at HL
      have hmem : s.data.toList = lettersT r := by rw [← hs]
      have hs9 : s.size ≤ 1000 := by
        rw [← size_list, hmem]
        exact (show ∀ r, r ≤ 13 → (lettersT r).length ≤ 1000 by decide) r hlt
      have HM := Lib.hid hmem
      clear hs hmem
      have hr13 : (r : Int) ≤ 13 := by omega
      go_wp2_with (go_at_call 44; refine (HL _).mono ?_; rintro e w1 ⟨rfl, rfl⟩)
      go_loopw [5] (fun u wr => ∃ i : Nat, u = .int .i64 i ∧ i ≤ s.size ∧ wr = w1 ∧ ∀ (j : Nat) (hj : j < s.size), j < i → s[j] ≠ b) (fun u _ => s.size - (intOf u).toNat)
      case atStart => exact ⟨0, rfl, by omega, rfl, fun j hj h => by omega⟩
      case round =>
        obtain ⟨i, rfl, hi, rfl, hne⟩ := hrel
        have HE := Lib.hid hne
        clear hne
        by_cases hil : i < s.size
        · by_cases hb : s[i] = b
          · have hk : rankN b.toNat = r := rank_letters r (by omega) b (by rw [← HM.out, ← hb]; exact Array.getElem_mem_toList (xs := s.data) hil)
            have t1 : ((s[i].toNat : Int) == (b.toNat : Int)) = true := by rw [hb]; simp
            have HK := Lib.hid hk
            clear hb hk
            go_wp2_with fail
            refine bodyPost_ret (v := .int .i64 r) ?_ rfl ⟨by rw [HK.out], rfl⟩
            simp [results, Tryz.results20, go_sem]
          · have hb2 := u8_ne hb
            have t1 : ((s[i].toNat : Int) == (b.toNat : Int)) = false := beq_eq_false_iff_ne.2 (by omega)
            have HB := Lib.hid hb
            clear hb hb2
            go_wp2_with fail
            go_roundw
            case rel => exact ⟨i + 1, by go_num, hil, by trivial, fun j hj h => by
              rcases Nat.lt_or_ge j i with g | g
              · exact HE.out j hj g
              · obtain rfl : j = i := by omega
                exact HB.out⟩
            case measure => simp [intOf]; omega
        · have hnm : b ∉ lettersT r := by
            rw [← HM.out]
            intro hm
            obtain ⟨j, hj, e⟩ := mem_get hm
            exact HE.out j hj (by omega) e
          have HQ := Lib.hid hnm
          clear hnm
          go_wp2_with fail
          go_roundw
          case rel => exact ⟨r + 1, by go_num, by omega, by omega, by trivial, fun k g1 g2 => by
            rcases Nat.lt_or_ge k r with g | g
            · exact HN.out k g1 g
            · obtain rfl : k = r := by omega
              exact HQ.out⟩
          case measure => simp [intOf]; omega
    · have h0 : rankN b.toNat = 0 := rank_none fun k g1 g2 => HN.out k g1 (by omega)
      have HK := Lib.hid h0
      have hr13 : ¬ (r : Int) ≤ 13 := by omega
      clear h0
      go_wp2_with fail
      refine bodyPost_ret (v := .int .i64 0) ?_ rfl ⟨by rw [HK.out]; rfl, rfl⟩
      simp [results, Tryz.results20, go_sem]
theorem head0 (l : List UInt8) (h : 0 < l.length) : l[0] = l.headD 0 := by
  cases l with
  | nil => simp at h
  | cons a l => rfl
theorem plain_nine : ∀ n, n < 256 → rankN n = 9 → plainN n = if n = 75 then 104 else if n = 107 then 72 else n := by decide +kernel
set_option maxRecDepth 100000 in
set_option maxHeartbeats 4000000 in
theorem refPlain_any (b : UInt8) (h0 : rankN b.toNat ≠ 0) (h8 : rankN b.toNat ≠ 8) (w : World) : Calls Tryz.prog 22 #[.int .u8 b.toNat] w fun e w' => e = .returned (.int .u8 (plainN b.toNat : Nat)) ∧ w' = w := by
  have HR := refRank_any b
  have hle := rankN_le b
  by_cases h9 : rankN b.toNat = 9
  · rw [plain_nine _ (UInt8.toNat_lt b) h9]
    rw [h9] at HR
    clear h0 h8 hle
    by_cases k1 : b.toNat = 75
    · rw [k1] at HR ⊢
      rw [if_pos rfl]
      clear k1
      go_enter Tryz.func22, Tryz.ntmps22
      go_wp2_with (go_at_call 20; refine (HR _).mono ?_; rintro e w1 ⟨rfl, rfl⟩)
      refine bodyPost_ret (v := .int .u8 104) ?_ rfl ⟨rfl, rfl⟩
      simp [results, Tryz.results22, go_sem]
    · rw [if_neg k1]
      by_cases k2 : b.toNat = 107
      · rw [k2] at HR ⊢
        rw [if_pos rfl]
        clear k1 k2
        go_enter Tryz.func22, Tryz.ntmps22
        go_wp2_with (go_at_call 20; refine (HR _).mono ?_; rintro e w1 ⟨rfl, rfl⟩)
        refine bodyPost_ret (v := .int .u8 72) ?_ rfl ⟨rfl, rfl⟩
        simp [results, Tryz.results22, go_sem]
      · rw [if_neg k2]
        have t1 : ((b.toNat : Int) == 75) = false := (eqB b 75).trans (decide_eq_false k1)
        have t2 : ((b.toNat : Int) == 107) = false := (eqB b 107).trans (decide_eq_false k2)
        clear k1 k2 h9
        go_enter Tryz.func22, Tryz.ntmps22
        go_wp2_with (go_at_call 20; refine (HR _).mono ?_; rintro e w1 ⟨rfl, rfl⟩)
        refine bodyPost_ret (v := .int .u8 b.toNat) ?_ rfl ⟨rfl, rfl⟩
        simp [results, Tryz.results22, go_sem]
  · have hp := plain_letters b.toNat (UInt8.toNat_lt b) h0 h8 h9
    have hpl : plainN b.toNat < 256 := by
      have h1 := rank_ascii (b := b) h0
      have := plain_ascii b.toNat h1.1 h1.2
      omega
    generalize hr : rankN b.toNat = r at *
    have HL := letters_any r (by omega) hle
    obtain ⟨s, hs⟩ : ∃ s : ByteArray, (⟨(lettersT r).toArray⟩ : ByteArray) = s := ⟨_, rfl⟩
    rw [hs] at HL
    have hpos : 0 < s.size := by
      rw [← size_list, ← hs]
      exact List.length_pos_iff.2 (letters_ne r (by omega) (by omega))
    have hs0 : s[0].toNat = plainN b.toNat := by
      have : s[0] = (lettersT r).headD 0 := by
        rw [← get_list s 0 hpos (by rw [size_list]; exact hpos)]
        have hm : s.data.toList = lettersT r := by rw [← hs]
        have h2 : 0 < s.data.toList.length := by rw [size_list]; exact hpos
        have h3 := head0 s.data.toList h2
        rw [h3, hm]
      rw [this, hp, UInt8.toNat_ofNat', Nat.mod_eq_of_lt hpl]
    have t9 : ((r : Int) == 9) = false := beq_eq_false_iff_ne.2 (by omega)
    have HS := Lib.hid hs0
    clear hs hp hpl hs0 hr h0 h8 h9
    go_enter Tryz.func22, Tryz.ntmps22
    go_wp2_with (first | (go_at_call 20; refine (HR _).mono ?_; rintro e w1 ⟨rfl, rfl⟩) | (go_at_call 44; refine (HL _).mono ?_; rintro e w1 ⟨rfl, rfl⟩))
    refine bodyPost_ret (v := .int .u8 s[0].toNat) ?_ rfl ⟨by rw [HS.out], rfl⟩
    simp [results, Tryz.results22, go_sem]
set_option maxRecDepth 100000 in
set_option maxHeartbeats 4000000 in
theorem row_any (s : ByteArray) (a : Nat) (ha : a < s.size) (hs : s.size ≤ 281474976710656) (w : World) : Calls Tryz.prog 19 #[.string s, .int .i64 a] w fun e w' => e = .returned (.int .i64 (runAt s a : Nat)) ∧ Below w.heap.size w w' := by
  go_enter Tryz.func19, Tryz.ntmps19
  go_wp2_with fail
  go_loopw [5] (fun u wr => ∃ n : Nat, u = .int .i64 n ∧ 1 ≤ n ∧ a + n ≤ s.size ∧ Below w.heap.size w wr ∧ ∀ (j : Nat) (hj : j < s.size), a ≤ j → j < a + n → s[j] = s[a]) (fun u _ => s.size - (intOf u).toNat)
  case atStart => exact ⟨1, rfl, by omega, by omega, Below.refl _ _, fun j hj h1 h2 => by
    have e : j = a := by omega
    subst e
    rfl⟩
  case round =>
    obtain ⟨n, rfl, h1, hn, hb, heq⟩ := hrel
    have HE := Lib.hid heq
    clear heq
    obtain ⟨m, hm⟩ : ∃ m, a + n = m := ⟨_, rfl⟩
    have hw : IntKind.i64.wrap ((a : Int) + n) = (m : Int) := by rw [IntKind.wrap_i64]; omega
    by_cases hlt : a + n < s.size
    · have c1 : (m : Int) < s.size := by omega
      have gm : s[m]'(by omega) = s[a + n] := by subst hm; rfl
      have hml : m < s.size := by omega
      by_cases hq : s[a + n] = s[a]
      · have t1 : ((s[m].toNat : Int) == (s[a].toNat : Int)) = true := by rw [gm, hq]; simp
        have HQ := Lib.hid hq
        have HM := Lib.hid hm
        clear hq gm hm
        go_wp2_with fail
        go_quiet (fail)
        go_wp2_with fail
        go_roundw
        case rel => exact ⟨n + 1, by go_num, by omega, by have := HM.out; omega, blw_drewN hb _, fun j hj g1 g2 => by
          rcases Nat.lt_or_ge j (a + n) with g | g
          · exact HE.out j hj g1 g
          · obtain rfl : j = a + n := by omega
            exact HQ.out⟩
        case measure => simp [intOf]; omega
      · have hq2 := u8_ne hq
        have t1 : ((s[m].toNat : Int) == (s[a].toNat : Int)) = false := by rw [gm]; exact beq_eq_false_iff_ne.2 (by omega)
        have hr := runAt_eq ha (by omega) hn HE.out (fun hj => hq)
        have HR := Lib.hid hr
        clear hq hq2 hr gm hm
        go_wp2_with fail
        go_quiet (fail)
        go_wp2_with fail
        refine bodyPost_ret (v := .int .i64 n) ?_ rfl ⟨by rw [HR.out], blw_drewN hb _⟩
        simp [results, Tryz.results19, go_sem]
    · have c1 : ¬ (m : Int) < s.size := by omega
      have c2 : ¬ m < s.size := by omega
      have hr := runAt_eq ha (by omega) hn HE.out (fun hj => absurd hj hlt)
      have HR := Lib.hid hr
      clear hr hm
      go_wp2_with fail
      go_quiet (fail)
      go_wp2_with fail
      refine bodyPost_ret (v := .int .i64 n) ?_ rfl ⟨by rw [HR.out], blw_drewN hb _⟩
      simp [results, Tryz.results19, go_sem]
end Go.Proofs.YtdkekhaamhphcaaGreatDoor
