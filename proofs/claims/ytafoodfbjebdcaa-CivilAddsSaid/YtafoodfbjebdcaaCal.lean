/-
  The Gregorian calendar in plain integers: the program's reckoning of a day's year, month and day is the only valid date of that number. No condition.
-/
namespace Cal
def Ys (y : Nat) : Nat := 365*y + y/4 - y/100 + y/400
def gg (n : Nat) : Nat := (n - n/1460 + n/36524) / 365
theorem ends : ∀ y, y < 400 → gg (Ys y) = y ∧ gg (min (Ys (y+1) - 1) 146095) = y := by decide +kernel
theorem gg_mono {a b : Nat} (h : a ≤ b) : gg a ≤ gg b := by
  unfold gg; apply Nat.div_le_div_right; omega
theorem Ys_step (y : Nat) : Ys y < Ys (y+1) := by unfold Ys; omega
theorem find : ∀ (k n : Nat), n < Ys k → ∃ y, y < k ∧ Ys y ≤ n ∧ n < Ys (y+1) := by
  intro k
  induction k with
  | zero => intro n h; simp [Ys] at h
  | succ k ih =>
    intro n h
    by_cases hk : n < Ys k
    · obtain ⟨y, a, b, c⟩ := ih n hk; exact ⟨y, by omega, b, c⟩
    · exact ⟨k, by omega, by omega, h⟩
theorem yoeN (n : Nat) (h : n < 146097) :
    let y := (n - n/1460 + n/36524 - n/146096) / 365
    y ≤ 399 ∧ Ys y ≤ n ∧ n < Ys (y+1) := by
  intro y
  by_cases h1 : n = 146096
  · subst h1; show _; simp only [y]; decide +kernel
  · obtain ⟨z, a, b, c⟩ := find 400 n (by show n < 146097; exact h)
    have e := ends z a
    have m1 := gg_mono b
    have m2 : gg n ≤ gg (min (Ys (z+1) - 1) 146095) := gg_mono (by omega)
    have : y = gg n := by simp only [y, gg]; congr 1; omega
    have hz : y = z := by omega
    rw [hz]; exact ⟨by omega, b, c⟩
theorem Ys_int (y : Nat) : ((Ys y : Nat) : Int) = 365*(y : Int) + (y : Int)/4 - (y : Int)/100 + (y : Int)/400 := by unfold Ys; omega
/-- days before March 1 within an era year -/
theorem yoe (n : Int) (h0 : 0 ≤ n) (h1 : n < 146097) :
  let y := (n - n/1460 + n/36524 - n/146096) / 365
  0 ≤ y ∧ y ≤ 399 ∧ 365*y + y/4 - y/100 ≤ n ∧ n < 365*(y+1) + (y+1)/4 - (y+1)/100 + (y+1)/400 := by
  obtain ⟨k, rfl⟩ := Int.eq_ofNat_of_zero_le h0
  obtain ⟨a, b, c⟩ := yoeN k (by omega)
  intro y
  have e : y = (((k - k/1460 + k/36524 - k/146096) / 365 : Nat) : Int) := by simp only [y]; omega
  generalize (k - k/1460 + k/36524 - k/146096) / 365 = z at *
  have b' : ((Ys z : Nat) : Int) ≤ k := by omega
  have c' : (k : Int) < ((Ys (z+1) : Nat) : Int) := by omega
  rw [Ys_int] at b' c'
  rw [Int.natCast_add] at c'
  clear_value y
  subst e
  exact ⟨by omega, by omega, by omega, c'⟩
def lp (y : Int) : Bool := y % 4 == 0 && (y % 100 != 0 || y % 400 == 0)
theorem lp_true {y : Int} : lp y = true ↔ (y % 4 = 0 ∧ (y % 100 ≠ 0 ∨ y % 400 = 0)) := by simp [lp]
theorem lp_false {y : Int} : lp y = false ↔ ¬ (y % 4 = 0 ∧ (y % 100 ≠ 0 ∨ y % 400 = 0)) := by rw [← lp_true]; simp
def dim (y m : Int) : Int := if m = 2 then (if lp y then 29 else 28) else if m = 4 ∨ m = 6 ∨ m = 9 ∨ m = 11 then 30 else 31
/-- days of the common year before a month -/
def cum0 (m : Int) : Int := if m ≤ 1 then 0 else if m = 2 then 31 else if m = 3 then 59 else if m = 4 then 90 else if m = 5 then 120 else if m = 6 then 151 else if m = 7 then 181 else if m = 8 then 212 else if m = 9 then 243 else if m = 10 then 273 else if m = 11 then 304 else if m = 12 then 334 else 365
def cum (y m : Int) : Int := cum0 m + if 2 < m ∧ lp y = true then 1 else 0
def fst (y : Int) : Int := 365*y + (y-1)/4 - (y-1)/100 + (y-1)/400 + 1
def num (y m d : Int) : Int := fst y - 719528 + cum y m + d - 1
def days (y m : Int) : Int := if -9999 ≤ y ∧ y ≤ 9999 ∧ 1 ≤ m ∧ m ≤ 12 then dim y m else 0
theorem months {m : Int} (h1 : 1 ≤ m) (h2 : m ≤ 12) : m = 1 ∨ m = 2 ∨ m = 3 ∨ m = 4 ∨ m = 5 ∨ m = 6 ∨ m = 7 ∨ m = 8 ∨ m = 9 ∨ m = 10 ∨ m = 11 ∨ m = 12 := by omega
theorem fst_succ (y : Int) : fst (y+1) = fst y + 365 + if lp y then 1 else 0 := by
  cases h : lp y
  · rw [lp_false] at h; simp [fst]; omega
  · rw [lp_true] at h; simp [fst]; omega
theorem cum_succ (y m : Int) (h1 : 1 ≤ m) (h2 : m ≤ 12) : cum y (m+1) = cum y m + dim y m := by
  rcases months h1 h2 with h|h|h|h|h|h|h|h|h|h|h|h <;> subst h <;> cases h : lp y <;> simp [cum, cum0, dim, h]
/-- the program's number -/
def pnum0 (Y M d : Int) : Int :=
  (153*(M-3)+2)/5 + d - 1 + ((Y % 400)*365 + (Y % 400)/4 - (Y % 400)/100) + (Y/400*146097 - 719468)
def pnum (y m d : Int) : Int := if m ≤ 2 then pnum0 (y - 1) (m + 12) d else pnum0 y m d
theorem pnum_eq (y m d : Int) (h1 : 1 ≤ m) (h2 : m ≤ 12) : pnum y m d = num y m d := by
  rcases months h1 h2 with h|h|h|h|h|h|h|h|h|h|h|h <;> subst h <;> cases h : lp y <;> simp [pnum, pnum0, num, cum, cum0, fst, h] <;> simp only [lp_true, lp_false] at h <;> omega
def valid (y m d : Int) : Prop := 1 ≤ m ∧ m ≤ 12 ∧ 1 ≤ d ∧ d ≤ dim y m
theorem dim_pos (y m : Int) : 28 ≤ dim y m ∧ dim y m ≤ 31 := by unfold dim; split <;> (try split) <;> omega
theorem fst_mono {a b : Int} (h : a ≤ b) : fst a ≤ fst b := by unfold fst; omega
theorem fst_lt {a b : Int} (h : a < b) : fst a < fst b := by unfold fst; omega
/-- within its year -/
theorem num_in {y m d : Int} (h : valid y m d) : fst y - 719528 ≤ num y m d ∧ num y m d < fst (y+1) - 719528 := by
  obtain ⟨h1, h2, h3, h4⟩ := h
  rw [fst_succ]
  rcases months h1 h2 with h|h|h|h|h|h|h|h|h|h|h|h <;> subst h <;> cases h : lp y <;> simp [num, cum, cum0, dim, h] at * <;> omega
theorem num_inj {y m d y' m' d' : Int} (h : valid y m d) (h' : valid y' m' d') (e : num y m d = num y' m' d') : y = y' ∧ m = m' ∧ d = d' := by
  have a := num_in h; have b := num_in h'
  have hy : y = y' := by
    rcases Int.lt_trichotomy y y' with c | c | c
    · have := fst_mono (show y + 1 ≤ y' by omega); omega
    · exact c
    · have := fst_mono (show y' + 1 ≤ y by omega); omega
  subst hy
  obtain ⟨h1, h2, h3, h4⟩ := h
  obtain ⟨g1, g2, g3, g4⟩ := h'
  have : m = m' ∧ d = d' := by
    unfold num at e
    rcases months h1 h2 with h|h|h|h|h|h|h|h|h|h|h|h <;> subst h <;> cases h : lp y <;> simp [cum, cum0, dim, h] at * <;>
    rcases months g1 g2 with h'|h'|h'|h'|h'|h'|h'|h'|h'|h'|h'|h' <;> subst h' <;> simp at * <;> omega
  exact ⟨rfl, this⟩

/-- the civil of a day's number, as the program reckons it -/
def era (n : Int) : Int := (n + 719468) / 146097
def rest (n : Int) : Int := (n + 719468) % 146097
def yo (o : Int) : Int := (o - o/1460 + o/36524 - o/146096) / 365
def doy (o : Int) : Int := o - (365 * yo o + yo o / 4 - yo o / 100)
def mp (o : Int) : Int := (5 * doy o + 2) / 153
def Day (n : Int) : Int := doy (rest n) - (153 * mp (rest n) + 2) / 5 + 1
def Month (n : Int) : Int := if 9 < mp (rest n) then mp (rest n) - 9 else mp (rest n) + 3
def Year (n : Int) : Int := if 9 < mp (rest n) then yo (rest n) + era n * 400 + 1 else yo (rest n) + era n * 400
theorem rest_in (n : Int) : 0 ≤ rest n ∧ rest n < 146097 := by unfold rest; omega
theorem yo_in {o : Int} (h0 : 0 ≤ o) (h1 : o < 146097) : 0 ≤ yo o ∧ yo o ≤ 399 := by
  obtain ⟨a, b, _, _⟩ := yoe o h0 h1; exact ⟨a, b⟩
theorem doy_in {o : Int} (h0 : 0 ≤ o) (h1 : o < 146097) : 0 ≤ doy o ∧ doy o ≤ 365 := by
  obtain ⟨a, b, c, d⟩ := yoe o h0 h1
  unfold doy
  change 0 ≤ yo o at a; change yo o ≤ 399 at b
  change 365 * yo o + yo o / 4 - yo o / 100 ≤ o at c
  change o < 365 * (yo o + 1) + (yo o + 1) / 4 - (yo o + 1) / 100 + (yo o + 1) / 400 at d
  omega
theorem mp_in {o : Int} (h0 : 0 ≤ o) (h1 : o < 146097) : 0 ≤ mp o ∧ mp o ≤ 11 := by
  have := doy_in h0 h1; unfold mp; omega
theorem months0 {m : Int} (h1 : 0 ≤ m) (h2 : m ≤ 11) : m = 0 ∨ m = 1 ∨ m = 2 ∨ m = 3 ∨ m = 4 ∨ m = 5 ∨ m = 6 ∨ m = 7 ∨ m = 8 ∨ m = 9 ∨ m = 10 ∨ m = 11 := by omega
theorem lp_era (y E : Int) : lp (y + E * 400) = lp y := by
  rw [Bool.eq_iff_iff, lp_true, lp_true]; omega
theorem fst_era (y E : Int) : fst (y + E * 400) = fst y + E * 146097 := by unfold fst; omega
theorem num_era (y E m d : Int) : num (y + E * 400) m d = num y m d + E * 146097 := by unfold num cum; rw [fst_era, lp_era]; omega
theorem dim_era (y E m : Int) : dim (y + E * 400) m = dim y m := by unfold dim; rw [lp_era]
theorem fst_lp (y : Int) : fst y + (if lp y then 1 else 0) = 365 * y + y / 4 - y / 100 + y / 400 + 1 := by
  cases h : lp y
  · rw [lp_false] at h; simp [fst]; omega
  · rw [lp_true] at h; simp [fst]; omega
theorem base (Y M D o : Int) (c : fst Y + (if lp Y then 1 else 0) - 1 ≤ o) (d : o < fst (Y + 1) + (if lp (Y + 1) then 1 else 0) - 1)
    (m0 : 0 ≤ M) (m1 : M ≤ 11) (hm : M = (5 * D + 2) / 153) (hd : D = o - (fst Y + (if lp Y then 1 else 0) - 1)) :
    valid (if 9 < M then Y + 1 else Y) (if 9 < M then M - 9 else M + 3) (D - (153 * M + 2) / 5 + 1) ∧ num (if 9 < M then Y + 1 else Y) (if 9 < M then M - 9 else M + 3) (D - (153 * M + 2) / 5 + 1) = o - 719468 := by
  have e := fst_succ Y
  unfold valid num cum dim
  cases h : lp Y <;> cases h' : lp (Y + 1) <;> simp only [h, h', reduceIte, Bool.false_eq_true] at c d hd e <;>
  rcases months0 m0 m1 with g|g|g|g|g|g|g|g|g|g|g|g <;> subst g <;> simp [cum0, h, h'] <;> omega
theorem told_ok (n : Int) : valid (Year n) (Month n) (Day n) ∧ num (Year n) (Month n) (Day n) = n := by
  obtain ⟨h0, h1⟩ := rest_in n
  obtain ⟨a, b, c, d⟩ := yoe (rest n) h0 h1
  change 0 ≤ yo (rest n) at a; change yo (rest n) ≤ 399 at b
  change 365 * yo (rest n) + yo (rest n) / 4 - yo (rest n) / 100 ≤ rest n at c
  change rest n < 365 * (yo (rest n) + 1) + (yo (rest n) + 1) / 4 - (yo (rest n) + 1) / 100 + (yo (rest n) + 1) / 400 at d
  obtain ⟨m0, m1⟩ := mp_in h0 h1
  have e : n = era n * 146097 + rest n - 719468 := by unfold era rest; omega
  obtain ⟨g1, g2⟩ := base (yo (rest n)) (mp (rest n)) (doy (rest n)) (rest n) (by rw [fst_lp]; omega) (by rw [fst_lp]; omega) m0 m1 rfl (by rw [fst_lp]; unfold doy; omega)
  have hy : Year n = (if 9 < mp (rest n) then yo (rest n) + 1 else yo (rest n)) + era n * 400 := by unfold Year; split <;> omega
  unfold valid at *
  rw [hy, dim_era, num_era]
  unfold Month Day
  exact ⟨g1, by rw [g2]; omega⟩
theorem told_num {y m d : Int} (h : valid y m d) : Year (num y m d) = y ∧ Month (num y m d) = m ∧ Day (num y m d) = d :=
  num_inj (told_ok _).1 h (told_ok _).2
end Cal
