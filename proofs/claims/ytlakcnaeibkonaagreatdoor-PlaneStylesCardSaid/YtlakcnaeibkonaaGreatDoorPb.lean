/-
  The walk of PlaneStyles, to its end. Conditions: what the listed variables hold, the text's size.
-/
import Derived.Test.YtlakcnaeibkonaaGreatDoorPa
namespace Go.Proofs.YtlakcnaeibkonaaGreatDoor
open Go.RowKit Go.Vx
set_option maxHeartbeats 4000000 in
theorem ref_nil (w : World) : Calls Tryz.prog 6 #[.string ⟨#[]⟩] w fun e w' => e = .returned (.int .i64 2) ∧ Below w.heap.size w w' := by
  go_enter Tryz.func6, Tryz.ntmps6
  go_wp2_with fail
  go_ret
  exact ⟨rfl, Below.refl _ _⟩
theorem none_more {l : List UInt8} {k : Nat} (h : ∀ j, j < k → Lib.decDigits j ≠ l) (hk : Lib.decDigits k ≠ l) : ∀ j, j < k + 1 → Lib.decDigits j ≠ l := fun j hj => by
  by_cases e : j = k
  · subst e; exact hk
  · exact h j (by omega)
set_option maxHeartbeats 8000000 in
theorem ref_any (s : ByteArray) (hl : s.data.toList ≠ []) (w : World) : Calls Tryz.prog 6 #[.string s] w fun e w' => e = .returned (.int .i64 (wantI s.data.toList)) ∧ Below w.heap.size w w' := by
  have hemp : s.toList.isEmpty = false := by rw [ByteArray.toList_eq]; simpa using hl
  have HW := Lib.hid (fun n hn h => want_yes (l := s.data.toList) (n := n) hn h)
  have HN := Lib.hid (fun h => want_no (l := s.data.toList) hl h)
  clear hl
  go_enter Tryz.func6, Tryz.ntmps6
  go_wp2_with fail
  go_loopw [3] (fun u wr => ∃ k : Nat, u = .int .i64 k ∧ k ≤ 41 ∧ (∀ j, j < k → Lib.decDigits j ≠ s.data.toList) ∧ Below w.heap.size w wr) (fun u _ => 41 - (intOf u).toNat)
  case atStart => exact ⟨0, rfl, by omega, fun j hj => by omega, Below.refl _ _⟩
  case round =>
    obtain ⟨k, rfl, hk, hno, hb⟩ := hrel
    by_cases e : k = 41
    · subst e
      have hw := HN.out hno
      clear hno
      go_wp2_with fail
      go_ret
      exact ⟨by rw [hw]; rfl, hb⟩
    · have HD := digits_yes k (by omega)
      have g0 : (k : Int) ≤ 40 := by omega
      by_cases q : Lib.decDigits k = s.data.toList
      · have hw := HW.out k (by omega) q
        have q1 : (s.toList == (Lib.decDigits k)) = true := by rw [ByteArray.toList_eq, q]; exact beq_self_eq_true _
        clear hno q e
        go_wp2_with fail
        refine (HD _).mono ?_
        rintro e w1 ⟨rfl, hb1⟩
        have hb2 := hb.trans (hb1.mono hb.size)
        go_wp2_with fail
        go_ret
        exact ⟨by rw [hw]; rfl, hb2⟩
      · have hno2 := Lib.hid (none_more hno q)
        have q1 : (s.toList == (Lib.decDigits k)) = false := by rw [ByteArray.toList_eq]; exact beq_eq_false_iff_ne.2 (fun h => q h.symm)
        clear hno q
        go_wp2_with fail
        refine (HD _).mono ?_
        rintro e w1 ⟨rfl, hb1⟩
        have hb2 := hb.trans (hb1.mono hb.size)
        go_wp2_with fail
        all_goals
          go_round
          case rel => exact ⟨k + 1, by simp [go_sem], by omega, hno2.out, hb2⟩
          case measure => simp [intOf]; omega
theorem styles_yes (s : ByteArray) (hs : s.size ≤ 281474976710656) (w : World) (hg : Glob w) : Calls Tryz.prog 3 #[.string s] w fun e w' => e = .returned (.bool true) ∧ Below w.heap.size w w' := by
  have HK := fun (w : World) (hg : Glob w) => wakes_yes hg
  by_cases hl : s.data.toList = []
  · obtain rfl := bytes_of hl
    have HS := style_nil
    have HR := ref_nil
    clear hl hs
    go_enter Tryz.func3, Tryz.ntmps3
    go_wp2_with fail
    refine (HK _ hg).mono ?_
    rintro e w1 ⟨rfl, hb1⟩
    go_wp2_with fail
    refine (HS _).mono ?_
    rintro e w2 ⟨rfl, hb2⟩
    have hb3 := hb1.trans (hb2.mono hb1.size)
    clear hb1 hb2
    go_wp2_with fail
    refine (HR _).mono ?_
    rintro e w4 ⟨rfl, hb4⟩
    have hb5 := hb3.trans (hb4.mono hb3.size)
    go_wp2_with fail
    go_ret
    exact ⟨rfl, hb5⟩
  · have HR := ref_any s hl
    by_cases hy : ∃ n, n < 41 ∧ Lib.decDigits n = s.data.toList
    · obtain ⟨n, hn, hd⟩ := hy
      have HS := style_yes n hn
      rw [← bytes_of hd.symm] at HS
      rw [want_yes hn hd] at HR
      have g0 : ¬ (n : Int) < 0 := by omega
      clear hl hd hs
      go_enter Tryz.func3, Tryz.ntmps3
      go_wp2_with fail
      refine (HK _ hg).mono ?_
      rintro e w1 ⟨rfl, hb1⟩
      go_wp2_with fail
      refine (HS _).mono ?_
      rintro e w2 ⟨rfl, hb2⟩
      have hb3 := hb1.trans (hb2.mono hb1.size)
      clear hb1 hb2
      go_wp2_with fail
      refine (HR _).mono ?_
      rintro e w4 ⟨rfl, hb4⟩
      have hb5 := hb3.trans (hb4.mono hb3.size)
      go_wp2_with fail
      go_ret
      exact ⟨rfl, hb5⟩
    · have hno : ∀ n, n < 41 → Lib.decDigits n ≠ s.data.toList := fun n hn h => hy ⟨n, hn, h⟩
      have HS := fun (w : World) (hg : Glob w) => style_no s hs hl hno w hg
      rw [want_no hl hno] at HR
      clear hl hno hs hy
      go_enter Tryz.func3, Tryz.ntmps3
      go_wp2_with fail
      refine (HK _ hg).mono ?_
      rintro e w1 ⟨rfl, hb1⟩
      have hg1 := hg.below hb1
      go_wp2_with fail
      refine (HS _ hg1).mono ?_
      rintro e w2 ⟨rfl, hb2⟩
      have hb3 := hb1.trans (hb2.mono hb1.size)
      clear hb1 hb2
      go_wp2_with fail
      refine (HR _).mono ?_
      rintro e w4 ⟨rfl, hb4⟩
      have hb5 := hb3.trans (hb4.mono hb3.size)
      go_wp2_with fail
      go_ret
      exact ⟨rfl, hb5⟩
end Go.Proofs.YtlakcnaeibkonaaGreatDoor
