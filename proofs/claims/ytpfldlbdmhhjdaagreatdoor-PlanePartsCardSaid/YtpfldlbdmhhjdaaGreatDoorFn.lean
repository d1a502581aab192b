/-
  Plain: words of floats: their sign, exponent and fraction; what is not finite; what a float is as a decimal of so many digits. No condition.
-/
import Derived.Test.YtpfldlbdmhhjdaaGreatDoorFm
import Derived.Laws.FloatArith
namespace Go.Fl
open Go
/-- a word of a finite number -/
def finW (a : Nat) : Bool := decide (a / 4503599627370496 % 2048 ≠ 2047)
def nanW (a : Nat) : Bool := decide (a / 4503599627370496 % 2048 = 2047) && decide (a % 4503599627370496 ≠ 0)
theorem sw : FloatKind.f64.format.signWeight = 9223372036854775808 := by decide
theorem ir : FloatKind.f64.format.infRung = 9218868437227405312 := by decide
theorem bn : FloatKind.f64.format.binade = 4503599627370496 := by decide
theorem lp : FloatKind.f64.format.leastPlace = -1074 := by decide
theorem read_fin {a : Nat} (h : finW a = true) : ∃ s m, ∃ i : Int, FloatKind.f64.format.read a = .number s m i ∧ m ≤ 9007199254740991 ∧ i ≤ 971 := by
  have h := of_decide_eq_true h
  unfold Ieee.Format.read
  simp only [sw, ir, bn, lp]
  by_cases h1 : a % 9223372036854775808 < 4503599627370496
  · rw [if_pos h1]
    exact ⟨_, _, _, rfl, by omega, by omega⟩
  · rw [if_neg h1, if_pos (by omega)]
    exact ⟨_, _, _, rfl, by omega, by omega⟩
theorem read_inf {a : Nat} (h : finW a = false) (hn : nanW a = false) : ∃ s, FloatKind.f64.format.read a = .infinity s := by
  have h := of_decide_eq_false h
  have h0 : a % 4503599627370496 = 0 := by
    unfold nanW at hn
    rw [Bool.and_eq_false_iff] at hn
    rcases hn with hn | hn
    · have := of_decide_eq_false hn; omega
    · have := of_decide_eq_false hn; omega
  unfold Ieee.Format.read
  simp only [sw, ir, bn, lp]
  rw [if_neg (by omega), if_neg (by omega), if_pos (by omega)]
  exact ⟨_, rfl⟩
theorem read_nan {a : Nat} (hn : nanW a = true) : ∃ s t, FloatKind.f64.format.read a = .nan s t := by
  unfold nanW at hn
  simp only [Bool.and_eq_true, decide_eq_true_eq] at hn
  unfold Ieee.Format.read
  simp only [sw, ir, bn, lp]
  rw [if_neg (by omega), if_neg (by omega), if_neg (by omega)]
  exact ⟨_, _, rfl⟩
theorem read_max : FloatKind.f64.format.read 9218868437227405311 = .number false 9007199254740991 971 := by decide
theorem read_min : FloatKind.f64.format.read 18442240474082181119 = .number true 9007199254740991 971 := by decide
theorem sh (m n : Nat) : m <<< n = m * 2 ^ n := Nat.shiftLeft_eq m n
theorem self_fin {a : Nat} (h : finW a = true) : FloatKind.f64.format.order a a = some .eq := by
  obtain ⟨s, m, i, e, _, _⟩ := read_fin h
  unfold Ieee.Format.order
  rw [e]
  simp [Ieee.Datum.order]
theorem self_nan {a : Nat} (h : nanW a = true) (b : Nat) : FloatKind.f64.format.order a b = none := by
  obtain ⟨s, t, e⟩ := read_nan h
  unfold Ieee.Format.order
  rw [e]
  rfl
theorem self_inf {a : Nat} (h : finW a = false) (hn : nanW a = false) : FloatKind.f64.format.order a a = some .eq := by
  obtain ⟨s, e⟩ := read_inf h hn
  unfold Ieee.Format.order
  rw [e]
  cases s <;> rfl
theorem max_fin {a : Nat} (h : finW a = true) : (FloatKind.f64.format.order a 9218868437227405311 == some .gt) = false := by
  obtain ⟨s, m, i, e, hm, hi⟩ := read_fin h
  unfold Ieee.Format.order
  rw [e, read_max]
  simp only [Ieee.Datum.order, beq_eq_false_iff_ne, ne_eq, Option.some.injEq]
  rw [show min i 971 = i by omega, show (i - i).toNat = 0 by omega]
  have hp : 1 ≤ 2 ^ (971 - i).toNat := Nat.one_le_two_pow
  have h9 : 9007199254740991 * 1 ≤ 9007199254740991 * 2 ^ (971 - i).toNat := Nat.mul_le_mul_left _ hp
  simp only [Ieee.signed, sh, Nat.pow_zero, Nat.mul_one, Bool.false_eq_true, if_false]
  generalize 9007199254740991 * 2 ^ (971 - i).toNat = y at *
  intro c
  rw [Int.compare_eq_gt] at c
  split at c <;> omega
theorem min_fin {a : Nat} (h : finW a = true) : (FloatKind.f64.format.order a 18442240474082181119 == some .lt) = false := by
  obtain ⟨s, m, i, e, hm, hi⟩ := read_fin h
  unfold Ieee.Format.order
  rw [e, read_min]
  simp only [Ieee.Datum.order, beq_eq_false_iff_ne, ne_eq, Option.some.injEq]
  rw [show min i 971 = i by omega, show (i - i).toNat = 0 by omega]
  have hp : 1 ≤ 2 ^ (971 - i).toNat := Nat.one_le_two_pow
  have h9 : 9007199254740991 * 1 ≤ 9007199254740991 * 2 ^ (971 - i).toNat := Nat.mul_le_mul_left _ hp
  simp only [Ieee.signed, sh, Nat.pow_zero, Nat.mul_one, if_true]
  generalize 9007199254740991 * 2 ^ (971 - i).toNat = y at *
  intro c
  rw [Int.compare_eq_lt] at c
  split at c <;> omega
theorem max_inf {a : Nat} (h : finW a = false) (hn : nanW a = false) : (FloatKind.f64.format.order a 9218868437227405311 == some .gt || FloatKind.f64.format.order a 18442240474082181119 == some .lt) = true := by
  obtain ⟨s, e⟩ := read_inf h hn
  unfold Ieee.Format.order
  rw [e, read_max, read_min]
  cases s <;> rfl
theorem max_abs {a : Nat} (h : finW a = false) (hn : nanW a = false) (h3 : a < 9223372036854775808) : (FloatKind.f64.format.order a 9218868437227405311 == some .gt) = true := by
  obtain ⟨s, e⟩ := read_inf h hn
  have hs : s = false := by
    unfold Ieee.Format.read at e
    simp only [sw, ir, bn, lp] at e
    split at e
    · cases e
    · split at e
      · cases e
      · split at e
        · injection e with e
          rw [← e]
          rw [show a / 9223372036854775808 = 0 by omega]
          rfl
        · cases e
  subst hs
  unfold Ieee.Format.order
  rw [e, read_max]
  rfl
/-! ### a float as a decimal -/
/-- the fraction with its leading one, and the exponent -/
def mant (a : Nat) : Nat := if a / 4503599627370496 % 2048 = 0 then a % 4503599627370496 else a % 4503599627370496 + 4503599627370496
def expo (a : Nat) : Nat := a / 4503599627370496 % 2048 - 1
/-- the digits' number, of so many behind the point -/
def numF (a scale : Nat) : Nat :=
  if 1074 - expo a ≤ scale then mant a * 2 ^ (expo a - 1074) * 5 ^ (1074 - expo a) * 10 ^ (scale - (1074 - expo a))
  else rnd (mant a * 5 ^ (1074 - expo a)) (1074 - expo a - scale)
theorem mant_lt (a : Nat) : mant a < 9007199254740992 := by
  unfold mant
  split <;> omega
theorem rnd_le (v k : Nat) : rnd v k ≤ v / 10 ^ k + 1 := by
  unfold rnd
  split <;> omega
theorem numF_lt {a scale : Nat} (h : finW a = true) (hs : scale ≤ 40) : numF a scale < 10 ^ 400 := by
  have hm := mant_lt a
  have he : expo a ≤ 2045 := by
    have := of_decide_eq_true h
    unfold expo
    omega
  unfold numF
  split
  · rename_i hc
    obtain ⟨k, hk⟩ : ∃ k : Nat, k = 971 := ⟨_, rfl⟩
    have h1 : 2 ^ (expo a - 1074) ≤ 2 ^ k := Nat.pow_le_pow_right (by decide) (by omega)
    have h2 : 5 ^ (1074 - expo a) ≤ 5 ^ 40 := Nat.pow_le_pow_right (by decide) (by omega)
    have h3 : 10 ^ (scale - (1074 - expo a)) ≤ 10 ^ 40 := Nat.pow_le_pow_right (by decide) (by omega)
    exact Nat.lt_of_le_of_lt (Nat.mul_le_mul (Nat.mul_le_mul (Nat.mul_le_mul (Nat.le_of_lt hm) h1) h2) h3) (by subst hk; decide +kernel)
  · rename_i hc
    have h1 := rnd_le (mant a * 5 ^ (1074 - expo a)) (1074 - expo a - scale)
    have h2 : mant a * 5 ^ (1074 - expo a) / 10 ^ (1074 - expo a - scale) ≤ mant a * 5 ^ scale := by
      have e : 1074 - expo a = (1074 - expo a - scale) + scale := by omega
      rw [Nat.div_le_iff_le_mul_add_pred (Nat.pow_pos (by decide))]
      have h5 : 5 ^ (1074 - expo a) = 5 ^ (1074 - expo a - scale) * 5 ^ scale := by rw [← Nat.pow_add]; congr 1
      have h6 : 5 ^ (1074 - expo a - scale) ≤ 10 ^ (1074 - expo a - scale) := Nat.pow_le_pow_left (by decide) _
      rw [h5]
      calc mant a * (5 ^ (1074 - expo a - scale) * 5 ^ scale) = 5 ^ (1074 - expo a - scale) * (mant a * 5 ^ scale) := by rw [Nat.mul_left_comm]
        _ ≤ 10 ^ (1074 - expo a - scale) * (mant a * 5 ^ scale) := Nat.mul_le_mul_right _ h6
        _ ≤ _ := Nat.le_add_right _ _
    have h3 : mant a * 5 ^ scale ≤ 9007199254740992 * 5 ^ 40 := Nat.mul_le_mul (Nat.le_of_lt hm) (Nat.pow_le_pow_right (by decide) hs)
    exact Nat.lt_of_le_of_lt (Nat.le_trans h1 (Nat.add_le_add_right (Nat.le_trans h2 h3) 1)) (by decide +kernel)
theorem dec_len {n : Nat} : ∀ k, 0 < k → n < 10 ^ k → (Lib.decDigits n).length ≤ k := by
  intro k
  induction k generalizing n with
  | zero => intro h; omega
  | succ k ih =>
    intro _ h
    unfold Lib.decDigits
    split
    · simp
    · rename_i h10
      have : n / 10 < 10 ^ k := by rw [Nat.pow_succ] at h; omega
      have hk : 0 < k := by
        rcases Nat.eq_zero_or_pos k with c | c
        · subst c; simp at this; omega
        · exact c
      have := ih hk this
      simp only [List.length_append, List.length_cons, List.length_nil]
      omega
end Go.Fl
