/-
  Plain: a map that counts numbers. Conditions: none.
-/
import Derived.Test.YtbgcngkofbelmaaDoorUd
import Derived.Maps.OwnSet
namespace Go.Proofs.YtbgcngkofbelmaaDoor
open Go.Maps
theorem key_ne {x y : Int} (h : x ≠ y) : (Lit.int .i64 x) ≠ Lit.int .i64 y := fun e => h (by cases e; rfl)
theorem isKey (x : Int) : WideAt.IsKeyLit (Lit.int .i64 x) := by first | trivial | (unfold WideAt.IsKeyLit; simp)
theorem key_same (x y : Int) : (Lit.int .i64 x).sameKey (Lit.int .i64 y) = decide (x = y) := by
  by_cases h : x = y
  · subst h
    rw [decide_eq_true rfl]
    exact WideAt.sameKey_self (isKey x)
  · rw [decide_eq_false h]
    exact sameKey_ne (key_ne h)
structure Met (D : DataW Unit) (xs : List Int) : Prop where
  tidy : Tidy D
  isIn : ∀ x, Maps.has D (.int .i64 x) = decide (x ∈ xs)
  times : ∀ x, D.atKey (.int .i64 x) (.lit (.int .i64 0)) = .lit (.int .i64 (xs.count x))
  size : xs.Nodup → Maps.size D = xs.length
theorem Met.nil : Met (.map []) [] where
  tidy := tidy_empty
  isIn _ := by rw [has_eq]; simp
  times _ := rfl
  size _ := rfl
theorem Met.put {D : DataW Unit} {xs : List Int} (h : Met D xs) {x c : Int} (hc : D.atKey (.int .i64 x) (.lit (.int .i64 0)) = .lit (.int .i64 c)) (hl : xs.length < 4611686018427387904) :
    Met (D.put (.int .i64 x) (.lit (.int .i64 (RowKit.wrap64 (c + 1))))) (xs ++ [x]) := by
  have hcc : c = xs.count x := by
    have := hc.symm.trans (h.times x)
    injection this with this
    injection this
  have hle : xs.count x ≤ xs.length := List.count_le_length
  have hw : RowKit.wrap64 (c + 1) = ((xs.count x + 1 : Nat) : Int) := by
    rw [hcc]
    simp only [RowKit.wrap64]
    omega
  rw [hw]
  have hM := h.tidy.isMap
  refine ⟨?_, fun y => ?_, fun y => ?_, fun hn => ?_⟩
  · exact h.tidy.put (isKey _) _
  · by_cases e : y = x
    · subst e
      rw [has_put_same hM (isKey _)]; simp
    · rw [has_put_other (key_ne e), h.isIn]; simp [e]
  · by_cases e : y = x
    · subst e
      rw [atKey_put_same hM (isKey _)]; simp
    · rw [atKey_put_other (key_ne e), h.times]
      have : [x].count y = 0 := by simp [Ne.symm e]
      rw [List.count_append, this]; rfl
  · rw [List.nodup_append] at hn
    obtain ⟨h1, _, h2⟩ := hn
    have hx : x ∉ xs := fun hx => h2 x hx x (by simp) rfl
    rw [size_put h.tidy, h.isIn, decide_eq_false hx, h.size h1]
    simp
/-- what the range has found so far, as a function of what is to come -/
def seenOk (xs : List Int) (n : Int) (left : Lit → Bool) : Bool := xs.all fun x => left (.int .i64 x) || ((xs.count x : Int) == 1 && decide (x < n))
theorem seenOk_start {D : DataW Unit} {xs : List Int} (h : Met D xs) (n : Int) : seenOk xs n (Maps.has D) = true := by
  unfold seenOk
  rw [List.all_eq_true]
  intro x hx
  rw [h.isIn, decide_eq_true hx]; rfl
theorem seenOk_step {xs : List Int} {n : Int} {left : Lit → Bool} {x : Int} (hx : x ∈ xs) (hl : left (.int .i64 x) = true) :
    seenOk xs n (fun z => left z && !z.sameKey (.int .i64 x)) = (seenOk xs n left && ((xs.count x : Int) == 1 && decide (x < n))) := by
  rw [Bool.eq_iff_iff]
  unfold seenOk
  rw [Bool.and_eq_true, List.all_eq_true, List.all_eq_true]
  simp only [key_same]
  constructor
  · intro h
    refine ⟨fun y hy => ?_, ?_⟩
    · have := h y hy
      cases hly : left (.int .i64 y)
      · rw [hly] at this; simpa using this
      · rfl
    · simpa using h x hx
  · rintro ⟨h, hp⟩ y hy
    by_cases e : y = x
    · subst e
      rw [hp]; simp
    · have := h y hy
      rw [decide_eq_false e]
      simpa using this
theorem seenOk_end {xs : List Int} {n : Int} {left : Lit → Bool} (h : ∀ k, left k = false) : seenOk xs n left = xs.all fun x => (xs.count x : Int) == 1 && decide (x < n) := by
  unfold seenOk
  simp only [h, Bool.false_or]
theorem seenOk_last {D : DataW Unit} {xs : List Int} (h : Met D xs) (h0 : ∀ x ∈ xs, 0 ≤ x) (n : Int) :
    (decide (n = (Maps.size D : Int)) && xs.all fun x => (xs.count x : Int) == 1 && decide (x < n)) = (decide ((xs.length : Int) = n) && counts (srt xs)) := by
  rw [counts_flag h0, Bool.eq_iff_iff, Bool.and_eq_true, Bool.and_eq_true, flag_all, List.all_eq_true, decide_eq_true_eq, decide_eq_true_eq]
  constructor
  · rintro ⟨e, hp⟩
    have hn : xs.Nodup := by
      rw [List.nodup_iff_count]
      intro a
      by_cases ha : a ∈ xs
      · have := hp a ha
        simp at this
        omega
      · rw [List.count_eq_zero_of_not_mem ha]; omega
    have es := h.size hn
    refine ⟨by omega, fun x hx => ?_, hn⟩
    have := hp x hx
    simp at this
    omega
  · rintro ⟨e, hp, hn⟩
    have es := h.size hn
    refine ⟨by omega, fun x hx => ?_⟩
    have h1 : xs.count x = 1 := by
      have g1 := (List.nodup_iff_count.1 hn) x
      have g2 : 0 < xs.count x := List.count_pos_iff.2 hx
      omega
    have := hp x hx
    rw [h1]
    simp
    omega
end Go.Proofs.YtbgcngkofbelmaaDoor
