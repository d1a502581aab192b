/-
  Plain: rows of decimal digits, the lowest first: sums of rows of unlike lengths, which is less, what is rounded, the one form. No condition.
-/
import Derived.Test.YtpfldlbdmhhjdaaGreatDoorFl
namespace Go.Fl
open Go
def plusR : List Nat → List Nat → Nat → List Nat
  | [], [], c => if c = 0 then [] else [c]
  | a :: l, [], c => (a + 0 + c) % 10 :: plusR l [] ((a + 0 + c) / 10)
  | [], b :: m, c => (0 + b + c) % 10 :: plusR [] m ((0 + b + c) / 10)
  | a :: l, b :: m, c => (a + b + c) % 10 :: plusR l m ((a + b + c) / 10)
theorem plusR_val : ∀ (l m : List Nat) (c : Nat), vL (plusR l m c) = vL l + vL m + c
  | [], [], c => by
    simp only [plusR]
    by_cases h : c = 0
    · rw [if_pos h, h]; rfl
    · rw [if_neg h]; simp [vL]
  | a :: l, [], c => by
    have := plusR_val l [] ((a + 0 + c) / 10)
    simp only [plusR, vL] at this ⊢
    rw [this]
    omega
  | [], b :: m, c => by
    have := plusR_val [] m ((0 + b + c) / 10)
    simp only [plusR, vL] at this ⊢
    rw [this]
    omega
  | a :: l, b :: m, c => by
    have := plusR_val l m ((a + b + c) / 10)
    simp only [plusR, vL, this]
    omega
theorem plusR_dig : ∀ (l m : List Nat) (c : Nat), Dig l → Dig m → c ≤ 1 → Dig (plusR l m c)
  | [], [], c, _, _, h => by
    simp only [plusR]
    by_cases h0 : c = 0
    · rw [if_pos h0]; exact dig_nil
    · rw [if_neg h0]; exact dig_cons.2 ⟨by omega, dig_nil⟩
  | a :: l, [], c, h1, h2, h3 => by
    obtain ⟨ha, hl⟩ := dig_cons.1 h1
    simp only [plusR]
    exact dig_cons.2 ⟨Nat.mod_lt _ (by decide), plusR_dig l [] ((a + 0 + c) / 10) hl h2 (by omega)⟩
  | [], b :: m, c, h1, h2, h3 => by
    obtain ⟨hb, hm⟩ := dig_cons.1 h2
    simp only [plusR]
    exact dig_cons.2 ⟨Nat.mod_lt _ (by decide), plusR_dig [] m ((0 + b + c) / 10) h1 hm (by omega)⟩
  | a :: l, b :: m, c, h1, h2, h3 => by
    obtain ⟨ha, hl⟩ := dig_cons.1 h1
    obtain ⟨hb, hm⟩ := dig_cons.1 h2
    simp only [plusR]
    exact dig_cons.2 ⟨Nat.mod_lt _ (by decide), plusR_dig l m ((a + b + c) / 10) hl hm (by omega)⟩
theorem plusR_len : ∀ (l m : List Nat) (c : Nat), (plusR l m c).length ≤ max l.length m.length + 1
  | [], [], c => by
    simp only [plusR]
    split <;> simp
  | a :: l, [], c => by
    have := plusR_len l [] ((a + 0 + c) / 10)
    simp only [plusR, List.length_cons, List.length_nil] at this ⊢
    omega
  | [], b :: m, c => by
    have := plusR_len [] m ((0 + b + c) / 10)
    simp only [plusR, List.length_cons, List.length_nil] at this ⊢
    omega
  | a :: l, b :: m, c => by
    have := plusR_len l m ((a + b + c) / 10)
    simp only [plusR, List.length_cons] at this ⊢
    omega
def atD (l : List Nat) (i : Nat) : Nat := l.getD i 0
theorem atD_lt {l : List Nat} (h : Dig l) (i : Nat) : atD l i < 10 := by
  unfold atD
  rw [List.getD_eq_getElem?_getD]
  by_cases hi : i < l.length
  · rw [List.getElem?_eq_getElem hi]; exact h _ (List.getElem_mem hi)
  · rw [List.getElem?_eq_none (by omega)]; decide
theorem atD_in {l : List Nat} {i : Nat} (h : i < l.length) : atD l i = l[i] := by
  unfold atD
  rw [List.getD_eq_getElem?_getD, List.getElem?_eq_getElem h]
  rfl
theorem atD_out {l : List Nat} {i : Nat} (h : l.length ≤ i) : atD l i = 0 := by
  unfold atD
  rw [List.getD_eq_getElem?_getD, List.getElem?_eq_none h]
  rfl
theorem drop_at {l : List Nat} {i : Nat} (h : i < l.length) : l.drop i = atD l i :: l.drop (i + 1) := by
  rw [atD_in h]
  exact List.drop_eq_getElem_cons h
theorem plusR_step (l m : List Nat) (c i : Nat) (hc : c ≤ 1) (h : i < l.length ∨ i < m.length ∨ 0 < c) :
    plusR (l.drop i) (m.drop i) c = (atD l i + atD m i + c) % 10 :: plusR (l.drop (i + 1)) (m.drop (i + 1)) ((atD l i + atD m i + c) / 10) := by
  by_cases h1 : i < l.length
  · rw [drop_at h1]
    by_cases h2 : i < m.length
    · rw [drop_at h2]; simp only [plusR]
    · rw [List.drop_eq_nil_of_le (as := m) (by omega), List.drop_eq_nil_of_le (as := m) (show m.length ≤ i + 1 by omega), atD_out (l := m) (by omega)]; simp only [plusR]
  · rw [List.drop_eq_nil_of_le (as := l) (by omega), List.drop_eq_nil_of_le (as := l) (show l.length ≤ i + 1 by omega), atD_out (l := l) (by omega)]
    by_cases h2 : i < m.length
    · rw [drop_at h2]; simp only [plusR]
    · rw [List.drop_eq_nil_of_le (as := m) (by omega), List.drop_eq_nil_of_le (as := m) (show m.length ≤ i + 1 by omega), atD_out (l := m) (by omega)]
      have : c = 1 := by omega
      subst this
      simp [plusR]
theorem plusR_end (l m : List Nat) (i : Nat) (h1 : l.length ≤ i) (h2 : m.length ≤ i) : plusR (l.drop i) (m.drop i) 0 = [] := by
  rw [List.drop_eq_nil_of_le h1, List.drop_eq_nil_of_le h2]; simp [plusR]
theorem vL_take (l : List Nat) (i : Nat) : vL l = vL (l.take i) + 10 ^ i * vL (l.drop i) := by
  by_cases h : i ≤ l.length
  · have := vL_app (l.take i) (l.drop i)
    rw [List.take_append_drop, List.length_take, Nat.min_eq_left h] at this
    exact this
  · rw [List.take_of_length_le (by omega), List.drop_eq_nil_of_le (by omega)]
    simp [vL]
theorem vL_drop (l : List Nat) (i : Nat) : vL (l.drop i) = atD l i + 10 * vL (l.drop (i + 1)) := by
  by_cases h : i < l.length
  · rw [drop_at h]; rfl
  · rw [List.drop_eq_nil_of_le (i := i) (by omega), List.drop_eq_nil_of_le (i := i + 1) (by omega), atD_out (by omega)]; rfl
theorem dig_take {l : List Nat} (h : Dig l) (i : Nat) : Dig (l.take i) := fun d hd => h d (List.mem_of_mem_take hd)
theorem dig_drop {l : List Nat} (h : Dig l) (i : Nat) : Dig (l.drop i) := fun d hd => h d (List.mem_of_mem_drop hd)
theorem vL_take_lt {l : List Nat} (h : Dig l) (i : Nat) : vL (l.take i) < 10 ^ i := by
  have h1 := vL_lt (dig_take h i)
  have h2 : (l.take i).length ≤ i := by rw [List.length_take]; omega
  exact Nat.lt_of_lt_of_le h1 (Nat.pow_le_pow_right (by decide) h2)
/-- where rows differ first, from above, it is told which is less -/
theorem less_at {l m : List Nat} (hl : Dig l) (hm : Dig m) (i : Nat) (he : vL (l.drop (i + 1)) = vL (m.drop (i + 1))) (hd : atD l i ≠ atD m i) : decide (vL l < vL m) = decide (atD l i < atD m i) := by
  have e1 := vL_take l i
  have e2 := vL_take m i
  rw [vL_drop] at e1 e2
  have b1 := vL_take_lt hl i
  have b2 := vL_take_lt hm i
  rw [he] at e1
  generalize vL (m.drop (i + 1)) = v at *
  generalize 10 ^ i = p at *
  rw [decide_eq_decide]
  rcases Nat.lt_or_gt_of_ne hd with h | h
  · have : p * (atD l i + 10 * v + 1) ≤ p * (atD m i + 10 * v) := Nat.mul_le_mul_left p (by omega)
    rw [Nat.mul_add, Nat.mul_one] at this
    constructor <;> intro _ <;> omega
  · have : p * (atD m i + 10 * v + 1) ≤ p * (atD l i + 10 * v) := Nat.mul_le_mul_left p (by omega)
    rw [Nat.mul_add, Nat.mul_one] at this
    constructor <;> intro _ <;> omega
theorem same_at {l m : List Nat} (i : Nat) (he : vL (l.drop (i + 1)) = vL (m.drop (i + 1))) (hd : atD l i = atD m i) : vL (l.drop i) = vL (m.drop i) := by
  rw [vL_drop l, vL_drop m, he, hd]
/-- the one form of a row: nothing ahead, or a digit that is no nought -/
theorem one_dec {l : List Nat} (h : Dig l) (hn : l ≠ []) (hz : l.length = 1 ∨ atD l (l.length - 1) ≠ 0) : txt l = Lib.decDigits (vL l) := by
  induction l with
  | nil => exact absurd rfl hn
  | cons d l ih =>
    obtain ⟨hd, hl⟩ := dig_cons.1 h
    by_cases e : l = []
    · subst e
      simp only [vL, Nat.mul_zero, Nat.add_zero]
      rw [Lib.decDigits_one hd]
      rfl
    · have hlen : l.length ≠ 0 := fun c => e (List.eq_nil_of_length_eq_zero c)
      have hz2 : atD l (l.length - 1) ≠ 0 := by
        rcases hz with h1 | h1
        · simp at h1; exact absurd h1 e
        · have : (d :: l).length - 1 = (l.length - 1) + 1 := by simp only [List.length_cons]; omega
          rw [this] at h1
          exact h1
      have hv : vL l ≠ 0 := by
        have e1 := vL_take l (l.length - 1)
        rw [vL_drop] at e1
        intro c
        rw [c] at e1
        have hp : 0 < 10 ^ (l.length - 1) := Nat.pow_pos (by decide)
        have : 0 < 10 ^ (l.length - 1) * (atD l (l.length - 1) + 10 * vL (l.drop (l.length - 1 + 1))) := Nat.mul_pos hp (by omega)
        omega
      simp only [vL]
      rw [dec_cons hd hv, ← ih hl e (Or.inr hz2)]
      simp [txt]
theorem one_cut {l : List Nat} {n : Nat} (hn : atD l n = 0) : vL (l.take (n + 1)) = vL (l.take n) := by
  have e1 := vL_take (l.take (n + 1)) n
  rw [vL_drop, List.take_take, Nat.min_eq_left (by omega), List.drop_eq_nil_of_le (by rw [List.length_take]; omega)] at e1
  have : atD (l.take (n + 1)) n = 0 := by
    unfold atD at *
    rw [List.getD_eq_getElem?_getD] at *
    rw [List.getElem?_take]
    split
    · exact hn
    · rfl
  rw [this] at e1
  simpa [vL] using e1
/-! ### rounding, the lowest first -/
theorem vL_mod {l : List Nat} (h : Dig l) (i : Nat) : vL l % 10 ^ i = vL (l.take i) ∧ vL l / 10 ^ i = vL (l.drop i) := by
  have hp : 0 < 10 ^ i := Nat.pow_pos (by decide)
  have e := vL_take l i
  have b := vL_take_lt h i
  rw [e, Nat.add_mul_mod_self_left, Nat.mod_eq_of_lt b, Nat.add_mul_div_left _ _ hp, Nat.div_eq_of_lt b, Nat.zero_add]
  exact ⟨rfl, rfl⟩
theorem vL_odd (l : List Nat) : vL l % 2 = atD l 0 % 2 := by
  have := vL_drop l 0
  rw [List.drop_zero] at this
  omega
/-- the lowest digits, noughts where there are none -/
def lowL (l : List Nat) (k : Nat) : List Nat := (List.range k).map (atD l)
theorem lowL_succ (l : List Nat) (k : Nat) : lowL l (k + 1) = lowL l k ++ [atD l k] := by
  unfold lowL
  rw [List.range_succ, List.map_append]
  rfl
theorem lowL_len (l : List Nat) (k : Nat) : (lowL l k).length = k := by simp [lowL]
theorem lowL_dig {l : List Nat} (h : Dig l) (k : Nat) : Dig (lowL l k) := fun d hd => by
  obtain ⟨j, _, rfl⟩ := List.mem_map.1 hd
  exact atD_lt h j
theorem lowL_val (l : List Nat) (k : Nat) : vL (lowL l k) = vL (l.take k) := by
  induction k with
  | zero => rfl
  | succ k ih =>
    rw [lowL_succ, vL_app, ih, lowL_len]
    have e1 := vL_take (l.take (k + 1)) k
    rw [vL_drop, List.take_take, Nat.min_eq_left (by omega), List.drop_eq_nil_of_le (by rw [List.length_take]; omega)] at e1
    have : atD (l.take (k + 1)) k = atD l k := by
      unfold atD
      rw [List.getD_eq_getElem?_getD, List.getD_eq_getElem?_getD, List.getElem?_take, if_pos (by omega)]
    rw [this] at e1
    rw [e1]
    rfl
def halfL (k : Nat) : List Nat := List.replicate k 0 ++ [5]
theorem halfL_val (k : Nat) : 2 * vL (halfL k) = 10 ^ (k + 1) := by
  unfold halfL
  rw [vL_app, vL_rep, List.length_replicate, Nat.pow_succ]
  simp only [vL]
  omega
theorem halfL_dig (k : Nat) : Dig (halfL k) := dig_app.2 ⟨dig_rep k, dig_cons.2 ⟨by decide, dig_nil⟩⟩
/-- what goes up, by rows -/
theorem rnd_rows {l : List Nat} (h : Dig l) (k : Nat) : (decide (vL (halfL k) < vL (lowL l (k + 1))) || (!decide (vL (lowL l (k + 1)) < vL (halfL k)) && decide (atD (l.drop (k + 1)) 0 % 2 = 1))) = true ↔
    (10 ^ (k + 1) < 2 * (vL l % 10 ^ (k + 1)) ∨ 2 * (vL l % 10 ^ (k + 1)) = 10 ^ (k + 1) ∧ vL l / 10 ^ (k + 1) % 2 = 1) := by
  obtain ⟨e1, e2⟩ := vL_mod h (k + 1)
  rw [e1, e2, lowL_val, vL_odd]
  have := halfL_val k
  simp only [Bool.or_eq_true, decide_eq_true_eq, Bool.and_eq_true, Bool.not_eq_true', decide_eq_false_iff_not]
  omega
end Go.Fl
