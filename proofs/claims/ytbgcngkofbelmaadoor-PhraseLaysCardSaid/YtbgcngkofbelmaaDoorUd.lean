/-
  Plain: a list of numbers sorted counts 0, 1, 2, .. just if all are unlike and below their number. Condition: none is negative.
-/
import Derived.Test.YtbgcngkofbelmaaDoorQ
namespace Go.Proofs.YtbgcngkofbelmaaDoor
/-- the flag that PhrasePlaces reckons: all so far are below their number and unlike the ones ahead -/
def inner (xs : List Int) (i : Nat) (b : Bool) : Nat → Bool
  | 0 => b
  | k + 1 => inner xs i b k && decide (xs.getD i 0 ≠ xs.getD k 0)
def flag (xs : List Int) : Nat → Bool
  | 0 => true
  | i + 1 => inner xs i (flag xs i && decide (xs.getD i 0 < xs.length)) i
theorem inner_true {xs : List Int} {i : Nat} {b : Bool} : ∀ k, inner xs i b k = true ↔ b = true ∧ ∀ j, j < k → xs.getD i 0 ≠ xs.getD j 0 := by
  intro k
  induction k with
  | zero => simp [inner]
  | succ k ih =>
    rw [inner, Bool.and_eq_true, ih]
    constructor
    · rintro ⟨⟨h1, h2⟩, h3⟩
      refine ⟨h1, fun j hj => ?_⟩
      rcases Nat.lt_or_ge j k with g | g
      · exact h2 j g
      · obtain rfl : k = j := by omega
        simpa using h3
    · rintro ⟨h1, h2⟩
      exact ⟨⟨h1, fun j hj => h2 j (by omega)⟩, by simpa using h2 k (by omega)⟩
theorem flag_true {xs : List Int} : ∀ i, flag xs i = true ↔ ∀ j, j < i → xs.getD j 0 < xs.length ∧ ∀ k, k < j → xs.getD j 0 ≠ xs.getD k 0 := by
  intro i
  induction i with
  | zero => simp [flag]
  | succ i ih =>
    rw [flag, inner_true, Bool.and_eq_true, ih]
    constructor
    · rintro ⟨⟨h1, h2⟩, h3⟩ j hj
      rcases Nat.lt_or_ge j i with g | g
      · exact h1 j g
      · obtain rfl : i = j := by omega
        exact ⟨by simpa using h2, h3⟩
    · intro h
      exact ⟨⟨fun j hj => h j (by omega), by simpa using (h i (by omega)).1⟩, (h i (by omega)).2⟩
theorem flag_all {xs : List Int} : flag xs xs.length = true ↔ (∀ x ∈ xs, x < xs.length) ∧ xs.Nodup := by
  rw [flag_true]
  constructor
  · intro h
    refine ⟨fun x hx => ?_, ?_⟩
    · obtain ⟨i, hi, rfl⟩ := List.mem_iff_getElem.1 hx
      have := (h i hi).1
      simpa [hi] using this
    · rw [List.nodup_iff_pairwise_ne, List.pairwise_iff_getElem]
      intro i j hi hj hij e
      have := (h j hj).2 i hij
      simp [hi, hj] at this
      exact this e.symm
  · rintro ⟨h1, h2⟩ j hj
    refine ⟨by simpa [hj] using h1 _ (List.getElem_mem hj), fun k hk => ?_⟩
    have hk' : k < xs.length := by omega
    rw [List.nodup_iff_pairwise_ne, List.pairwise_iff_getElem] at h2
    have := h2 k j hk' hj hk
    simp [hj, hk']
    exact fun e => this e.symm
theorem counts_iff {ts : List Int} : counts ts = true ↔ ∀ i (hi : i < ts.length), ts[i] = i := by
  constructor
  · intro h i hi
    rcases Decidable.em (ts[i] = i) with e | e
    · exact e
    · rw [counts_no hi e] at h; cases h
  · exact counts_yes
theorem srt_perm (xs : List Int) : (srt xs).Perm xs := List.mergeSort_perm _ _
theorem srt_sorted (xs : List Int) : (srt xs).Pairwise fun a b => a ≤ b := by
  have := List.pairwise_mergeSort (le := fun x y : Int => decide (x ≤ y)) (fun a b c => by simp; omega) (fun a b => by simp; omega) xs
  exact this.imp fun h => by simpa using h
theorem strict_lower {ts : List Int} (h : ts.Pairwise fun a b => a < b) (h0 : ∀ x ∈ ts, 0 ≤ x) : ∀ i (hi : i < ts.length), (i : Int) ≤ ts[i] := by
  intro i
  induction i with
  | zero => intro hi; exact h0 _ (List.getElem_mem hi)
  | succ i ih =>
    intro hi
    have h1 := ih (by omega)
    have h2 := List.pairwise_iff_getElem.1 h i (i + 1) (by omega) hi (by omega)
    omega
theorem strict_upper {ts : List Int} (h : ts.Pairwise fun a b => a < b) (h1 : ∀ x ∈ ts, x < ts.length) : ∀ d i (hi : i < ts.length), ts.length - 1 - i = d → ts[i] ≤ (i : Int) := by
  intro d
  induction d with
  | zero =>
    intro i hi e
    have := h1 _ (List.getElem_mem hi)
    omega
  | succ d ih =>
    intro i hi e
    have g := ih (i + 1) (by omega) (by omega)
    have h2 := List.pairwise_iff_getElem.1 h i (i + 1) hi (by omega) (by omega)
    omega
theorem counts_flag {xs : List Int} (h0 : ∀ x ∈ xs, 0 ≤ x) : counts (srt xs) = flag xs xs.length := by
  rw [Bool.eq_iff_iff, counts_iff, flag_all]
  have hp := srt_perm xs
  have hl := srt_len xs
  constructor
  · intro h
    refine ⟨fun x hx => ?_, ?_⟩
    · obtain ⟨i, hi, rfl⟩ := List.mem_iff_getElem.1 (hp.mem_iff.2 hx)
      rw [h i hi]; omega
    · rw [← hp.nodup_iff, List.nodup_iff_pairwise_ne, List.pairwise_iff_getElem]
      intro i j hi hj hij
      rw [h i hi, h j hj]; omega
  · rintro ⟨h1, h2⟩ i hi
    have hn : (srt xs).Nodup := hp.nodup_iff.2 h2
    have hs : (srt xs).Pairwise fun a b => a < b := by
      rw [List.nodup_iff_pairwise_ne] at hn
      exact (List.pairwise_and_iff.2 ⟨srt_sorted xs, hn⟩).imp fun ⟨a, b⟩ => by omega
    have g0 : ∀ x ∈ srt xs, 0 ≤ x := fun x hx => h0 x (hp.mem_iff.1 hx)
    have g1 : ∀ x ∈ srt xs, x < (srt xs).length := fun x hx => by rw [hl]; exact h1 x (hp.mem_iff.1 hx)
    have a := strict_lower hs g0 i hi
    have b := strict_upper hs g1 _ i hi rfl
    omega
end Go.Proofs.YtbgcngkofbelmaaDoor
