/-
  Runes of a text in plain Lean: where a form begins and ends, and the first broken byte. No condition.
-/
import Derived.Lib.DecodeN
import Derived.Lib.TrimU
namespace Ph
open Go
theorem w1 (s : ByteArray) (i : Nat) : 1 ≤ (Utf8.decode s i).2 := Lib.width_pos s i
theorem wN (n b0 b1 b2 b3 : Nat) (h : 1 ≤ n) : (Lib.decodeN n b0 b1 b2 b3).2 ≤ n ∧ (Lib.decodeN n b0 b1 b2 b3).2 ≤ 4 := by
  unfold Lib.decodeN; repeat' split
  all_goals (simp only; omega)
theorem wIn (s : ByteArray) (i : Nat) (h : i < s.size) : i + (Utf8.decode s i).2 ≤ s.size := by
  rw [Lib.decode_at]
  have := (wN (s.size - i) (s.get! i).toNat (s.get! (i + 1)).toNat (s.get! (i + 2)).toNat (s.get! (i + 3)).toNat (by omega)).1
  omega
theorem get_eq (s : ByteArray) (i : Nat) (h : i < s.size) : s.get! i = s[i] := by
  simp [ByteArray.get!, getElem!_pos, h]
  rfl
theorem lowN (n b0 b1 b2 b3 c : Nat) (hc : c < 128) : (Lib.decodeN n b0 b1 b2 b3).1 = c ↔ b0 = c := by
  unfold Lib.decodeN; repeat' split
  all_goals (try simp only)
  all_goals omega
/-- a rune of ASCII is its byte -/
theorem low_iff (s : ByteArray) (i c : Nat) (h : i < s.size) (hc : c < 128) : (Utf8.decode s i).1 = c ↔ s[i].toNat = c := by
  rw [Lib.decode_at, lowN _ _ _ _ _ _ hc, get_eq s i h]
theorem contN (n b0 b1 b2 b3 k : Nat) (h1 : b1 < 256) (h2 : b2 < 256) (h3 : b3 < 256) (hk : 0 < k) (hw : k < (Lib.decodeN n b0 b1 b2 b3).2) : 128 ≤ (if k = 1 then b1 else if k = 2 then b2 else b3) ∧ k < n ∧ k ≤ 3 ∧ 128 ≤ b0 := by
  unfold Lib.decodeN at hw; repeat' split at hw
  all_goals (simp only at hw; repeat' split)
  all_goals omega
/-- what stands within a form is no ASCII -/
theorem within (s : ByteArray) (i j : Nat) (_h : i < s.size) (h1 : i < j) (h2 : j < i + (Utf8.decode s i).2) (hj : j < s.size) : 128 ≤ s[j].toNat := by
  rw [Lib.decode_at] at h2
  obtain ⟨a, b, c, _⟩ := contN (s.size - i) (s.get! i).toNat (s.get! (i + 1)).toNat (s.get! (i + 2)).toNat (s.get! (i + 3)).toNat (j - i) (UInt8.toNat_lt _) (UInt8.toNat_lt _) (UInt8.toNat_lt _) (by omega) (by omega)
  rw [← get_eq s j hj]
  split at a
  · rw [show j = i + 1 by omega]; exact a
  · split at a
    · rw [show j = i + 2 by omega]; exact a
    · rw [show j = i + 3 by omega]; exact a
theorem first (s : ByteArray) (i : Nat) (h : i < s.size) (hw : 1 < (Utf8.decode s i).2) : 128 ≤ s[i].toNat := by
  rw [Lib.decode_at] at hw
  obtain ⟨_, _, _, a⟩ := contN (s.size - i) (s.get! i).toNat (s.get! (i + 1)).toNat (s.get! (i + 2)).toNat (s.get! (i + 3)).toNat 1 (UInt8.toNat_lt _) (UInt8.toNat_lt _) (UInt8.toNat_lt _) (by omega) hw
  rw [← get_eq s i h]; exact a
def bad (s : ByteArray) (i : Nat) : Bool := decide ((Utf8.decode s i).1 = 65533 ∧ (Utf8.decode s i).2 = 1)
/-- the first broken byte from a place on -/
def brkF (s : ByteArray) : Nat → Nat → Option Nat
  | 0, _ => none
  | f + 1, i => if i < s.size then (if bad s i then some i else brkF s f (i + (Utf8.decode s i).2)) else none
theorem brkF_more (s : ByteArray) : ∀ (f i : Nat), s.size - i ≤ f → brkF s f i = brkF s (s.size - i) i := by
  intro f
  induction f using Nat.strongRecOn with
  | ind f ih =>
    intro i hf
    cases f with
    | zero => rw [show s.size - i = 0 by omega]
    | succ f =>
      by_cases h : i < s.size
      · obtain ⟨g, hg⟩ : ∃ g, s.size - i = g + 1 := ⟨s.size - i - 1, by omega⟩
        rw [hg]
        simp only [brkF, h, if_true]
        split
        · rfl
        · have w := w1 s i
          rw [ih f (by omega) _ (by omega), ih g (by omega) _ (by omega)]
      · rw [show s.size - i = 0 by omega]; simp [brkF, h]
def brk (s : ByteArray) (i : Nat) : Option Nat := brkF s (s.size - i) i
theorem brk_end (s : ByteArray) (i : Nat) (h : ¬ i < s.size) : brk s i = none := by
  unfold brk; rw [show s.size - i = 0 by omega]; rfl
theorem brk_bad (s : ByteArray) (i : Nat) (h : i < s.size) (hb : bad s i = true) : brk s i = some i := by
  unfold brk
  obtain ⟨g, hg⟩ : ∃ g, s.size - i = g + 1 := ⟨s.size - i - 1, by omega⟩
  rw [hg]; simp [brkF, h, hb]
theorem brk_step (s : ByteArray) (i : Nat) (h : i < s.size) (hb : bad s i = false) : brk s i = brk s (i + (Utf8.decode s i).2) := by
  unfold brk
  obtain ⟨g, hg⟩ : ∃ g, s.size - i = g + 1 := ⟨s.size - i - 1, by omega⟩
  have w := w1 s i
  rw [hg]; simp only [brkF, h, if_true, hb, Bool.false_eq_true, if_false]
  exact brkF_more s g _ (by omega)
theorem brk_lt (s : ByteArray) : ∀ (f i k : Nat), brkF s f i = some k → i ≤ k ∧ k < s.size := by
  intro f
  induction f with
  | zero => intro i k h; simp [brkF] at h
  | succ f ih =>
    intro i k h
    simp only [brkF] at h
    split at h
    · split at h
      · simp at h; omega
      · have := ih _ _ h; omega
    · simp at h
end Ph
