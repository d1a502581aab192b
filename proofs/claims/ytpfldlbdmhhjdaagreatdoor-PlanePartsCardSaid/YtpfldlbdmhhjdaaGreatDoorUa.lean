/-
  Plain: words of floats, their signs turned about. No condition.
-/
import Derived.Laws.FloatArith
set_option linter.unusedVariables false
namespace Go.Proofs.YtpfldlbdmhhjdaaGreatDoor
open Go
/-- a word of a finite number -/
def fin (a : Nat) : Bool := match FloatKind.f64.format.read a with
  | .number .. => true
  | _ => false
def flip (a : Nat) : Nat := a ^^^ 9223372036854775808
theorem flip_flip (a : Nat) : flip (flip a) = a := by
  unfold flip
  rw [Nat.xor_assoc, Nat.xor_self, Nat.xor_zero]
theorem flip_mod (a : Nat) : flip a % 9223372036854775808 = a % 9223372036854775808 := by
  show (a ^^^ 2 ^ 63) % 2 ^ 63 = a % 2 ^ 63
  rw [Nat.xor_mod_two_pow, Nat.mod_self, Nat.xor_zero]
theorem neg_flip (a : Nat) : Op.negFloat .f64 a = flip a := rfl
theorem fin_rung (a : Nat) : fin a = decide (a % 9223372036854775808 < 9218868437227405312) := by
  have hw : FloatKind.f64.format.signWeight = 9223372036854775808 := by decide
  have hi : FloatKind.f64.format.infRung = 9218868437227405312 := by decide
  have hb : FloatKind.f64.format.binade = 4503599627370496 := by decide
  unfold fin Ieee.Format.read
  simp only [hw, hi, hb]
  by_cases h1 : a % 9223372036854775808 < 4503599627370496
  · rw [if_pos h1, decide_eq_true (by omega)]
  · rw [if_neg h1]
    by_cases h2 : a % 9223372036854775808 < 9218868437227405312
    · rw [if_pos h2, decide_eq_true h2]
    · rw [if_neg h2, decide_eq_false h2]
      by_cases h3 : a % 9223372036854775808 = 9218868437227405312
      · rw [if_pos h3]
      · rw [if_neg h3]
theorem fin_flip (a : Nat) : fin (flip a) = fin a := by
  rw [fin_rung, fin_rung, flip_mod]
theorem order_self {a : Nat} (h : fin a = true) : FloatKind.f64.format.order a a = some .eq := by
  unfold fin at h
  unfold Ieee.Format.order
  split at h
  · rename_i s m i e
    rw [e]
    simp [Ieee.Datum.order]
  · cases h
theorem sub_self {a : Nat} (h : fin a = true) : FloatKind.f64.format.sub a a = some 0 := by
  unfold fin at h
  unfold Ieee.Format.sub
  split at h
  · rename_i s m i e
    rw [e]
    have ht : Ieee.signed s m (i - min i i).toNat + Ieee.signed (!s) m (i - min i i).toNat = 0 := by
      unfold Ieee.signed
      cases s <;> simp <;> omega
    simp only [Ieee.Datum.opposite, Ieee.Datum.sum, ht]
    simp [Ieee.Format.write, Ieee.Format.nearest, Ieee.Format.word]
  · cases h
theorem sub_none {a : Nat} (h : fin a = false) : FloatKind.f64.format.sub a a = none := by
  unfold fin at h
  unfold Ieee.Format.sub
  cases e : FloatKind.f64.format.read a with
  | number s m i => rw [e] at h; cases h
  | infinity s => cases s <;> rfl
  | nan s t => rfl
end Go.Proofs.YtpfldlbdmhhjdaaGreatDoor
