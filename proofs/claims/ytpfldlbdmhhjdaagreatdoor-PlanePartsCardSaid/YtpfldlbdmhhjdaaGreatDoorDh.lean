/-
  dec.up; digits of a number as a row. Conditions: sizes.
-/
import Derived.Test.YtpfldlbdmhhjdaaGreatDoorDg
set_option linter.unusedVariables false
namespace Go.Proofs.YtpfldlbdmhhjdaaGreatDoor
open Go.RowKit Go.Fl Go.Sort
theorem digs (n : Nat) : ∃ D, Dig D ∧ Lib.decDigits n = chM D ∧ vM 0 D = n ∧ 0 < D.length := by
  by_cases h : n = 0
  · subst h
    exact ⟨[0], dig_cons.2 ⟨by decide, dig_nil⟩, by rw [Lib.decDigits_one (by decide)]; rfl, rfl, by decide⟩
  · have H : ∀ n, n ≠ 0 → ∃ D, Dig D ∧ Lib.decDigits n = chM D ∧ vM 0 D = n ∧ 0 < D.length := by
      intro n
      induction n using Nat.strongRecOn with
      | ind n ih =>
        intro h0
        by_cases h1 : n < 10
        · refine ⟨[n], dig_cons.2 ⟨h1, dig_nil⟩, ?_, by simp [vM], by simp⟩
          rw [Lib.decDigits_one h1]
          simp [chM, chr]
        · obtain ⟨D, h2, h3, h4, h5⟩ := ih (n / 10) (by omega) (by omega)
          refine ⟨D ++ [n % 10], dig_app.2 ⟨h2, dig_cons.2 ⟨by omega, dig_nil⟩⟩, ?_, ?_, by simp⟩
          · have := dec_cons (d := n % 10) (v := n / 10) (by omega) (by omega)
            rw [show n % 10 + 10 * (n / 10) = n by omega] at this
            rw [this, h3, chM_app]
            rfl
          · rw [vM_app, h4]
            simp only [vM]
            omega
    exact H n h
theorem cmp_chM : ∀ (l m : List Nat), l.length = m.length → Dig l → Dig m → Lib.compareBytes (chM l) (chM m) = cmpM l m
  | [], [], _, _, _ => rfl
  | a :: l, b :: m, h, h1, h2 => by
    obtain ⟨ha, hl⟩ := dig_cons.1 h1
    obtain ⟨hb, hm⟩ := dig_cons.1 h2
    have ih := cmp_chM l m (by simpa using h) hl hm
    have e1 : (chr a < chr b) = (a < b) := by rw [UInt8.lt_iff_toNat_lt, chr_nat ha, chr_nat hb]; simp
    have e2 : (chr b < chr a) = (b < a) := by rw [UInt8.lt_iff_toNat_lt, chr_nat ha, chr_nat hb]; simp
    show Lib.compareBytes (chr a :: chM l) (chr b :: chM m) = _
    simp only [Lib.compareBytes, cmpM, e1, e2, ih]
  | [], _ :: _, h, _, _ => by simp at h
  | _ :: _, [], h, _, _ => by simp at h
theorem rep_zero : ∀ n, Lib.repeatL [48] n = chM (List.replicate n 0)
  | 0 => rfl
  | n + 1 => by
    show [48] ++ Lib.repeatL [48] n = _
    rw [rep_zero n, List.replicate_succ]
    rfl
theorem size_of {s : ByteArray} {D : List Nat} (h : s.data.toList = chM D) : s.size = D.length := by
  show s.data.size = _
  rw [← Array.length_toList, h, chM_len]
set_option maxRecDepth 100000 in
set_option maxHeartbeats 4000000 in
theorem up_any (neg odd : Bool) (s : ByteArray) (T : List Nat) (hT : Dig T) (n : Nat) (hlen : T.length = n + 1) (hn : n ≤ 100000) (hs : s.data.toList = chM T) (w : World) :
    Calls Tryz.prog 30 #[.bool neg, .bool odd, .string s, .int .i64 1] w fun e w' => e = .returned (.bool (decide (10 ^ (n + 1) < 2 * vM 0 T) || (decide (2 * vM 0 T = 10 ^ (n + 1)) && odd))) ∧ Below w.heap.size w w' := by
  have hsz := size_of hs
  have H1 := fun w : World => Tryz.strings_Repeat ⟨#[48]⟩ n w (by omega) (by show 1 * n ≤ _; omega)
  have hf5 : Dig (5 :: List.replicate n 0) := dig_cons.2 ⟨by decide, dig_rep n⟩
  have HC := fun w : World => Tryz.strings_Compare s ⟨(chM (5 :: List.replicate n 0)).toArray⟩ w
  have ecmp : Lib.compareBytes s.data.toList (⟨(chM (5 :: List.replicate n 0)).toArray⟩ : ByteArray).data.toList = cmpM T (5 :: List.replicate n 0) := by
    rw [hs]
    exact cmp_chM T _ (by rw [hlen, List.length_cons, List.length_replicate]) hT hf5
  have hl1 : T.length = (5 :: List.replicate n 0).length := by rw [hlen, List.length_cons, List.length_replicate]
  have hhalf := half_val n
  have HT := fun w : World => Trim0 s (by omega) w
  have e5 : ∀ r : ByteArray, r.data.toList = chM (List.replicate n 0) → (⟨#[53]⟩ : ByteArray) ++ r = ⟨(chM (5 :: List.replicate n 0)).toArray⟩ := fun r hr => by
    apply bytes_of
    rw [ByteArray.data_append, Array.toList_append, hr]
    rfl
  have e1 : (⟨(Lib.repeatL [48] n).toArray⟩ : ByteArray).data.toList = chM (List.replicate n 0) := by rw [rep_zero]
  have e6 := e5 _ e1
  obtain ⟨z, hz⟩ : ∃ z : Int, z = cmpM T (5 :: List.replicate n 0) := ⟨_, rfl⟩
  rw [ecmp, ← hz] at HC
  rw [cmpM_val T _ hl1 hT hf5] at hz
  clear hl1
  have hres : (decide (10 ^ (n + 1) < 2 * vM 0 T) || (decide (2 * vM 0 T = 10 ^ (n + 1)) && odd)) = (decide (0 < z) || (decide (z = 0) && odd)) := by
    rw [← hhalf, hz]
    generalize vM 0 T = x
    generalize vM 0 (5 :: List.replicate n 0) = y
    rcases Nat.lt_trichotomy x y with h | h | h
    · rw [if_pos h, decide_eq_false (by omega), decide_eq_false (by omega)]; simp
    · subst h; simp
    · rw [if_neg (by omega), if_pos h, decide_eq_true (by omega)]; simp
  rw [hres]
  have hno : ¬ 9223372036854775807 < 1 + (Lib.repeatL [48] n).length := by rw [Lib.repeatL_length]; simp only [List.length_cons, List.length_nil]; omega
  clear hres hz ecmp hhalf e1 e5 hf5
  generalize (⟨(chM (5 :: List.replicate n 0)).toArray⟩ : ByteArray) = F at *
  go_enter Tryz.func30, Tryz.ntmps30
  go_wp2_with (first | (go_at_call 31; refine (H1 _).mono ?_; rintro e w1 ⟨rfl, hb1⟩) | (go_at_call 53; refine (HC _).mono ?_; rintro e w2 ⟨rfl, rfl⟩) | (go_at_call 54; refine (HT _).mono ?_; rintro e w3 ⟨⟨t, rfl⟩, hb3⟩))
  all_goals
    have hbe : Below w.heap.size w w3 := hb1.trans (hb3.mono hb1.size)
  · refine bodyPost_ret (v := .bool odd) ?_ rfl ⟨?_, hbe⟩
    · simp [results, Tryz.results30, go_sem]
    · have hz0 : z = 0 := by assumption
      rw [hz0]; simp
  · rename_i c1 c2
    refine bodyPost_ret (v := .bool (decide (0 < z))) ?_ rfl ⟨?_, hbe⟩
    · simp [results, Tryz.results30, go_sem]
    · simp_all
  · refine bodyPost_ret (v := .bool true) ?_ rfl ⟨?_, hbe⟩
    · simp [results, Tryz.results30, go_sem]
    · simp_all
end Go.Proofs.YtpfldlbdmhhjdaaGreatDoor
