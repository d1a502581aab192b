/-
  Phrases in plain Lean: what a text falls into from a place on, and which bytes are a place's number. No condition.
-/
import Derived.Lib.DecodeN
namespace Ph
/-- a piece of a phrase -/
structure Pc where
  kind : Int
  text : ByteArray
  place : Int
/-- a place's digits -/
def digits (n : Nat) : List UInt8 := if n < 10 then [UInt8.ofNat (48 + n)] else [49, UInt8.ofNat (48 + (n - 10))]
def placeOf (l : List UInt8) : Option Nat := (List.range 16).find? (fun n => digits n == l)
theorem place_some {l : List UInt8} {n : Nat} (h : placeOf l = some n) : n < 16 ∧ l = digits n := by
  unfold placeOf at h
  have a := List.find?_some h
  have b := List.mem_of_find?_eq_some h
  exact ⟨by simpa using b, by simpa using (beq_iff_eq.1 a).symm⟩
theorem digits_inj : ∀ n, n < 16 → ∀ m, m < 16 → digits n = digits m → n = m := by decide +kernel
theorem place_digits {n : Nat} (h : n < 16) : placeOf (digits n) = some n := by
  cases e : placeOf (digits n) with
  | none =>
    unfold placeOf at e
    have := List.find?_eq_none.1 e n (by simpa using h)
    simp at this
  | some m =>
    obtain ⟨a, b⟩ := place_some e
    rw [digits_inj n h m a b]
theorem place_none {l : List UInt8} (h : placeOf l = none) (n : Nat) (hn : n < 16) : l ≠ digits n := by
  rintro rfl
  rw [place_digits hn] at h; cases h
def pre (l : List Pc) : Except Nat (List Pc) → Except Nat (List Pc)
  | .ok m => .ok (l ++ m)
  | .error k => .error k
theorem pre_nil (r : Except Nat (List Pc)) : pre [] r = r := by cases r <;> rfl
theorem pre_pre (l m : List Pc) (r : Except Nat (List Pc)) : pre l (pre m r) = pre (l ++ m) r := by cases r <;> simp [pre]
def brace (c : UInt8) : Prop := c = 123 ∨ c = 125
/-- what a text falls into from a place on, or where it is wrong -/
inductive Par (s : ByteArray) : Nat → Except Nat (List Pc) → Prop
  | fin (i : Nat) (h : ¬ i < s.size) : Par s i (.ok [])
  | opens (i j n : Nat) (r : Except Nat (List Pc)) (h : i < s.size) (h1 : s[i] = 123) (hj : i < j) (hj' : j < s.size) (h2 : s[j] = 125)
      (h3 : ∀ k (hk : k < s.size), i < k → k < j → s[k] ≠ 125) (hp : placeOf (s.extract (i + 1) j).data.toList = some n) (hr : Par s (j + 1) r) : Par s i (pre [⟨2, ⟨#[]⟩, n⟩] r)
  | noclose (i : Nat) (h : i < s.size) (h1 : s[i] = 123) (h3 : ∀ k (hk : k < s.size), i < k → s[k] ≠ 125) : Par s i (.error i)
  | badplace (i j : Nat) (h : i < s.size) (h1 : s[i] = 123) (hj : i < j) (hj' : j < s.size) (h2 : s[j] = 125)
      (h3 : ∀ k (hk : k < s.size), i < k → k < j → s[k] ≠ 125) (hp : placeOf (s.extract (i + 1) j).data.toList = none) : Par s i (.error i)
  | closes (i : Nat) (h : i < s.size) (h1 : s[i] = 125) : Par s i (.error i)
  | text (i k : Nat) (r : Except Nat (List Pc)) (h : i < s.size) (hk : i < k) (hk' : k ≤ s.size) (h1 : ∀ m (hm : m < s.size), i ≤ m → m < k → ¬ brace s[m])
      (h2 : ∀ hk : k < s.size, brace s[k]) (hr : Par s k r) : Par s i (pre [⟨1, s.extract i k, 0⟩] r)
theorem Par.det {s : ByteArray} {i : Nat} {r : Except Nat (List Pc)} (h : Par s i r) : ∀ {r'}, Par s i r' → r = r' := by
  have b123 : (123 : UInt8) ≠ 125 := by decide
  induction h with
  | fin i h => intro r' h'; cases h' with | fin => rfl | _ => omega
  | opens i j n r h h1 hj hj' h2 h3 hp hr ih =>
    intro r' h'
    cases h' with
    | fin _ g => omega
    | opens _ j' n' r' g g1 gj gj' g2 g3 gp gr =>
      have e : j = j' := by
        rcases Nat.lt_trichotomy j j' with c | c | c
        · exact absurd h2 (g3 j hj' hj c)
        · exact c
        · exact absurd g2 (h3 j' gj' gj c)
      subst e
      rw [hp] at gp
      cases gp
      rw [ih gr]
    | noclose _ g g1 g3 => exact absurd h2 (g3 j hj' hj)
    | badplace _ j' g g1 gj gj' g2 g3 gp =>
      have e : j = j' := by
        rcases Nat.lt_trichotomy j j' with c | c | c
        · exact absurd h2 (g3 j hj' hj c)
        · exact c
        · exact absurd g2 (h3 j' gj' gj c)
      subst e
      rw [hp] at gp
      cases gp
    | closes _ g g1 => rw [h1] at g1; exact absurd g1 b123
    | text _ k r' g gk gk' g1 g2 gr => exact absurd (Or.inl h1) (g1 i g (Nat.le_refl _) gk)
  | noclose i h h1 h3 =>
    intro r' h'
    cases h' with
    | fin _ g => omega
    | opens _ j' n' r' g g1 gj gj' g2 g3 gp gr => exact absurd g2 (h3 j' gj' gj)
    | noclose _ g g1 g3 => rfl
    | badplace _ j' g g1 gj gj' g2 g3 gp => rfl
    | closes _ g g1 => rfl
    | text _ k r' g gk gk' g1 g2 gr => exact absurd (Or.inl h1) (g1 i g (Nat.le_refl _) gk)
  | badplace i j h h1 hj hj' h2 h3 hp =>
    intro r' h'
    cases h' with
    | fin _ g => omega
    | opens _ j' n' r' g g1 gj gj' g2 g3 gp gr =>
      have e : j = j' := by
        rcases Nat.lt_trichotomy j j' with c | c | c
        · exact absurd h2 (g3 j hj' hj c)
        · exact c
        · exact absurd g2 (h3 j' gj' gj c)
      subst e
      rw [hp] at gp
      cases gp
    | noclose _ g g1 g3 => rfl
    | badplace _ j' g g1 gj gj' g2 g3 gp => rfl
    | closes _ g g1 => rfl
    | text _ k r' g gk gk' g1 g2 gr => exact absurd (Or.inl h1) (g1 i g (Nat.le_refl _) gk)
  | closes i h h1 =>
    intro r' h'
    cases h' with
    | fin _ g => omega
    | opens _ j' n' r' g g1 gj gj' g2 g3 gp gr => rw [h1] at g1; exact absurd g1.symm b123
    | noclose _ g g1 g3 => rfl
    | badplace _ j' g g1 gj gj' g2 g3 gp => rfl
    | closes _ g g1 => rfl
    | text _ k r' g gk gk' g1 g2 gr => exact absurd (Or.inr h1) (g1 i g (Nat.le_refl _) gk)
  | text i k r h hk hk' h1 h2 hr ih =>
    intro r' h'
    cases h' with
    | fin _ g => omega
    | opens _ j' n' r' g g1 gj gj' g2 g3 gp gr => exact absurd (Or.inl g1) (h1 i h (Nat.le_refl _) hk)
    | noclose _ g g1 g3 => exact absurd (Or.inl g1) (h1 i h (Nat.le_refl _) hk)
    | badplace _ j' g g1 gj gj' g2 g3 gp => exact absurd (Or.inl g1) (h1 i h (Nat.le_refl _) hk)
    | closes _ g g1 => exact absurd (Or.inr g1) (h1 i h (Nat.le_refl _) hk)
    | text _ k' r' g gk gk' g1 g2 gr =>
      have e : k = k' := by
        rcases Nat.lt_trichotomy k k' with c | c | c
        · exact absurd (h2 (by omega)) (g1 k (by omega) (by omega) c)
        · exact c
        · exact absurd (g2 (by omega)) (h1 k' (by omega) (by omega) c)
      subst e
      rw [ih gr]
end Ph
