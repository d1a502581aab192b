/-
  Every text: the style it says, or none. Conditions: what the listed variables hold, the text's size.
-/
import Derived.Test.YtnakbibdljdlcaaGreatDoorPh
import Derived.Test.YtnakbibdljdlcaaGreatDoorUa
set_option linter.unusedVariables false
namespace Go.Proofs.YtnakbibdljdlcaaGreatDoor
open Go.RowKit Go.Vx
def curL : List UInt8 := [99, 117, 114, 114, 101, 110, 99, 121]
def fixdL : List UInt8 := [102, 105, 120, 101, 100]
theorem cut_of (s : ByteArray) (hs : s.size ≤ 281474976710656) (pre r : List UInt8) (hp : ∀ k, k < pre.length → pre[k]? ≠ some 47) (h : s.toList = pre ++ 47 :: r) (w : World) :
    Calls Tryz.prog 8 #[.string s, .string ⟨#[47]⟩] w fun e w' => e = .returned (.tuple #[.string (s.extract 0 pre.length), .string (s.extract (pre.length + 1) s.size), .bool true]) ∧ Below w.heap.size w w' := by
  have hd : s.data.toList = pre ++ 47 :: r := by rw [← Go.Lib.toList_data]; exact h
  have hz : s.size = pre.length + (r.length + 1) := by
    rw [Go.Lib.size_eq, hd]; simp
  exact cut_yes s pre.length (by rw [hd]; exact index_app hp) (by omega) hs w
theorem fix_len {n : Nat} (h : n < 41) : (fixL n).length ≤ 8 := by
  have := dec_size n h
  unfold fixL
  simp only [List.length_append, List.length_cons, List.length_nil]
  omega
theorem take9_ne {s : ByteArray} {pre r : List UInt8} (hz : s.size = 12) (h : s.toList = fixdL ++ 47 :: r) : ((s.extract 0 9).toList == [99, 117, 114, 114, 101, 110, 99, 121, 47]) = false := by
  rw [take_list s 9 (by omega), h]
  refine beq_eq_false_iff_ne.2 fun e => ?_
  simp [fixdL] at e
theorem size_list (s : ByteArray) : s.toList.length = s.size := by
  rw [Go.Lib.toList_data, Go.Lib.size_eq]
theorem cur_size {s : ByteArray} (r : List UInt8) (h : s.toList = curL ++ 47 :: r) : s.size = 9 + r.length := by
  rw [← size_list, h]
  simp [curL]
  omega
/-- a money -/
theorem law_cur (s : ByteArray) (hs : s.size ≤ 281474976710656) (hn : None5 s) (r : List UInt8) (h : s.toList = curL ++ 47 :: r) (w : World) (hg : Glob w) :
    Calls Tryz.prog 3 #[.string s] w fun e w' => e = .returned (.bool true) ∧ Below w.heap.size w w' := by
  have HC := cut_of s hs curL r (by decide) h
  have hsz := cur_size r h
  have g0 : ((s.extract 0 8).toList == [99, 117, 114, 114, 101, 110, 99, 121]) = true := by
    rw [take_list s 8 (by omega), h]
    rfl
  have g9 : ((s.extract 0 9).toList == [99, 117, 114, 114, 101, 110, 99, 121, 47]) = true := by
    rw [take_list s 9 (by omega), h]
    rfl
  have hno : ∀ n, n < 41 → fixL n ≠ s.toList := fun n _ e => by
    rw [h] at e
    simp [fixL, curL] at e
  have hrz : (s.extract 9 s.size).size = r.length := by simp; omega
  have hr9 : (s.extract 9 s.size).size ≤ 281474976710656 := by omega
  by_cases hq : (decide ((s.extract 9 s.size).size = 3) && allB letB (turnS 97 (turnS 97 (s.extract 9 s.size)))) = true
  · have HS := style_cur s (s.extract 0 8) (s.extract 9 s.size) hr9 hn HC g0 hq
    rw [turnS_twice, allB_turn] at hq
    rw [turnS_twice] at HS
    simp only [Bool.and_eq_true, decide_eq_true_eq] at hq
    have hz : s.size = 12 := by omega
    rw [hz] at HS hq
    exact law_ok s _ _ _ _ (fun w _ => HS w) (ref_cur s hs hn hz g9 hq.2) w hg
  · have hq := eq_false_of_ne_true hq
    have HS := style_curno s (s.extract 0 8) (s.extract 9 s.size) hr9 hn HC g0 hq
    refine law_err s (fun w _ => HS w) ?_ w hg
    by_cases hz : s.size = 12
    · rw [turnS_twice, allB_turn, hz] at hq
      have hq2 : allB letB (s.extract 9 12) = false := by
        rw [hz] at hrz
        rw [decide_eq_true (by omega), Bool.true_and] at hq
        exact hq
      exact ref_c s hs hn _ (fun n hn e => absurd e (hno n hn)) (fun _ => rfl) hz g9 hq2
    · exact ref_a s hs hn _ (fun n hn e => absurd e (hno n hn)) (fun _ => rfl) hz
/-- so many digits -/
theorem law_fix (s : ByteArray) (hs : s.size ≤ 281474976710656) (hn : None5 s) (r : List UInt8) (h : s.toList = fixdL ++ 47 :: r) (w : World) (hg : Glob w) :
    Calls Tryz.prog 3 #[.string s] w fun e w' => e = .returned (.bool true) ∧ Below w.heap.size w w' := by
  have HC := cut_of s hs fixdL r (by decide) h
  have hsz : s.size = 6 + r.length := by
    rw [← size_list, h]
    simp [fixdL]
    omega
  have g0 : ((s.extract 0 5).toList == [99, 117, 114, 114, 101, 110, 99, 121]) = false := by
    rw [take_list s 5 (by omega), h]
    rfl
  have g1 : ((s.extract 0 5).toList == [102, 105, 120, 101, 100]) = true := by
    rw [take_list s 5 (by omega), h]
    rfl
  have hrl : (s.extract 6 s.size).data.toList = r := by
    rw [drop_list, h]
    rfl
  have hrz : (s.extract 6 s.size).size = r.length := by simp; omega
  have hfx : ∀ n, fixL n = s.toList ↔ Lib.decDigits n = r := fun n => by
    rw [h]
    unfold fixL fixdL
    simp
  by_cases hy : ∃ n, n < 41 ∧ Lib.decDigits n = r
  · obtain ⟨n, hn41, hd⟩ := hy
    have HS := style_fix s _ n hn41 hn (s.extract 6 s.size) (bytes_of (by rw [hrl, hd])) HC g0 g1
    have hz : s.size ≠ 12 := by
      have := dec_size n hn41
      rw [hd] at this
      omega
    refine law_ok s _ _ _ _ (fun w _ => HS w) (ref_a s hs hn _ (fun m hm e => ?_) (fun hno => absurd ((hfx n).2 hd) (hno n hn41)) hz) w hg
    have : n = m := dec_inj hn41 hm (by rw [hd]; exact ((hfx m).1 e).symm)
    rw [this]
  · have hno : ∀ n, n < 41 → fixL n ≠ s.toList := fun n hn e => hy ⟨n, hn, (hfx n).1 e⟩
    have HS := fun w hg => style_fixno s _ (s.extract 6 s.size) hn HC g0 g1 (by omega) (fun n hn e => hy ⟨n, hn, by rw [e, hrl]⟩) w hg
    refine law_err s HS ?_ w hg
    by_cases hz : s.size = 12
    · exact ref_b s hs hn _ (fun n hn e => absurd e (hno n hn)) (fun _ => rfl) hz (take9_ne (pre := []) hz h)
    · exact ref_a s hs hn _ (fun n hn e => absurd e (hno n hn)) (fun _ => rfl) hz
/-- neither -/
theorem law_none (s : ByteArray) (hs : s.size ≤ 281474976710656) (hn : None5 s) (hc : ∀ r, s.toList ≠ curL ++ 47 :: r) (hf : ∀ r, s.toList ≠ fixdL ++ 47 :: r) (w : World) (hg : Glob w) :
    Calls Tryz.prog 3 #[.string s] w fun e w' => e = .returned (.bool true) ∧ Below w.heap.size w w' := by
  have hno : ∀ n, n < 41 → fixL n ≠ s.toList := fun n _ e => hf (Lib.decDigits n) (by rw [← e]; rfl)
  have HR : ∀ w, Calls Tryz.prog 6 #[.string s] w fun e w' => e = .returned (.tuple #[nv 0 ⟨#[]⟩ false 0, .bool false]) ∧ Below w.heap.size w w' := by
    by_cases hz : s.size = 12
    · refine ref_b s hs hn _ (fun n hn e => absurd e (hno n hn)) (fun _ => rfl) hz ?_
      refine beq_eq_false_iff_ne.2 fun e => hc (s.toList.drop 9) ?_
      rw [take_list s 9 (by omega)] at e
      have := List.take_append_drop 9 s.toList
      rw [e] at this
      exact this.symm
    · exact ref_a s hs hn _ (fun n hn e => absurd e (hno n hn)) (fun _ => rfl) hz
  by_cases hi : Lib.indexByte s.data.toList 47 = -1
  · have HS := style_no0 s _ _ hn (cut_no s hi)
    exact law_err s (fun w _ => HS w) HR w hg
  · have h0 := Lib.indexByte_ge s.data.toList 47
    obtain ⟨i, hi⟩ := Int.eq_ofNat_of_zero_le (show 0 ≤ Lib.indexByte s.data.toList 47 by omega)
    have h1 := (Lib.indexByte_some hi).1
    have hlt : i < s.size := by
      have := (List.getElem?_eq_some_iff.1 h1).1
      simpa using this
    have hsp := split_at h1
    rw [← Go.Lib.toList_data] at hsp
    have hk := take_list s i (by omega)
    have HS := style_no1 s _ _ hn (cut_yes s i hi hlt hs) (by
        refine beq_eq_false_iff_ne.2 fun e => ?_
        rw [hk] at e
        rw [e] at hsp
        exact hc _ hsp) (by
        refine beq_eq_false_iff_ne.2 fun e => ?_
        rw [hk] at e
        rw [e] at hsp
        exact hf _ hsp)
    exact law_err s (fun w _ => HS w) HR w hg
theorem of_list {s : ByteArray} {l : List UInt8} (h : s.toList = l) : s = ⟨l.toArray⟩ := bytes_of (by rw [← Go.Lib.toList_data]; exact h)
theorem styles_yes (s : ByteArray) (hs : s.size ≤ 281474976710656) (w : World) (hg : Glob w) : Calls Tryz.prog 3 #[.string s] w fun e w' => e = .returned (.bool true) ∧ Below w.heap.size w w' := by
  by_cases h0 : s.toList = []
  · obtain rfl := of_list h0
    exact law_ok _ _ _ _ _ (fun w _ => stC0 w) rfC0 w hg
  by_cases h1 : s.toList = [105, 110, 116, 101, 103, 101, 114]
  · obtain rfl := of_list h1
    exact law_ok _ _ _ _ _ (fun w _ => stC1 w) rfC1 w hg
  by_cases h2 : s.toList = [112, 101, 114, 99, 101, 110, 116]
  · obtain rfl := of_list h2
    exact law_ok _ _ _ _ _ (fun w _ => stC2 w) rfC2 w hg
  by_cases h3 : s.toList = [115, 104, 111, 114, 116]
  · obtain rfl := of_list h3
    exact law_ok _ _ _ _ _ (fun w _ => stC3 w) rfC3 w hg
  by_cases h4 : s.toList = [108, 111, 110, 103]
  · obtain rfl := of_list h4
    exact law_ok _ _ _ _ _ (fun w _ => stC4 w) rfC4 w hg
  have hn := none5 s h0 h1 h2 h3 h4
  by_cases hc : ∃ r, s.toList = curL ++ 47 :: r
  · obtain ⟨r, hc⟩ := hc
    exact law_cur s hs hn r hc w hg
  by_cases hf : ∃ r, s.toList = fixdL ++ 47 :: r
  · obtain ⟨r, hf⟩ := hf
    exact law_fix s hs hn r hf w hg
  exact law_none s hs hn (fun r e => hc ⟨r, e⟩) (fun r e => hf ⟨r, e⟩) w hg
end Go.Proofs.YtnakbibdljdlcaaGreatDoor
