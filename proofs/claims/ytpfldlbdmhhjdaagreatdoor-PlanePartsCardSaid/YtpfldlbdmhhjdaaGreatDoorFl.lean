/-
  Plain: rows of decimal digits, the lowest first or the highest first: sums, halves, what is rounded; the one form of a number. No condition.
-/
import Derived.Lib.ItoaNum
namespace Go.Fl
open Go
def vL : List Nat → Nat
  | [] => 0
  | d :: l => d + 10 * vL l
def Dig (l : List Nat) : Prop := ∀ d ∈ l, d < 10
theorem dig_nil : Dig [] := fun _ h => by cases h
theorem dig_cons {d : Nat} {l : List Nat} : Dig (d :: l) ↔ d < 10 ∧ Dig l := by simp [Dig]
theorem dig_app {l m : List Nat} : Dig (l ++ m) ↔ Dig l ∧ Dig m := by
  unfold Dig
  constructor
  · intro h
    exact ⟨fun d hd => h d (List.mem_append_left _ hd), fun d hd => h d (List.mem_append_right _ hd)⟩
  · rintro ⟨h1, h2⟩ d hd
    rcases List.mem_append.1 hd with h | h
    · exact h1 d h
    · exact h2 d h
theorem dig_rev {l : List Nat} : Dig l.reverse ↔ Dig l := by simp [Dig]
theorem dig_get {l : List Nat} (h : Dig l) {k : Nat} (hk : k < l.length) : l[k] < 10 := h _ (List.getElem_mem hk)
theorem dig_rep (n : Nat) : Dig (List.replicate n 0) := fun d hd => by rw [List.eq_of_mem_replicate hd]; decide
theorem vL_app (l m : List Nat) : vL (l ++ m) = vL l + 10 ^ l.length * vL m := by
  induction l with
  | nil => simp [vL]
  | cons d l ih =>
    simp only [List.cons_append, vL, ih, List.length_cons, Nat.pow_succ]
    rw [Nat.mul_add, ← Nat.add_assoc, ← Nat.mul_assoc, Nat.mul_comm 10 (10 ^ l.length)]
theorem vL_rep (n : Nat) : vL (List.replicate n 0) = 0 := by
  induction n with
  | zero => rfl
  | succ n ih => simp [List.replicate_succ, vL, ih]
theorem vL_lt {l : List Nat} (h : Dig l) : vL l < 10 ^ l.length := by
  induction l with
  | nil => simp [vL]
  | cons d l ih =>
    obtain ⟨h1, h2⟩ := dig_cons.1 h
    have := ih h2
    simp only [vL, List.length_cons, Nat.pow_succ]
    omega
def chr (d : Nat) : UInt8 := UInt8.ofNat (48 + d)
theorem chr_nat {d : Nat} (h : d < 10) : (chr d).toNat = 48 + d := by
  unfold chr
  rw [UInt8.toNat_ofNat']
  omega
theorem chr_eq {d : Nat} (h : d < 10) : (chr d == 48) = decide (d = 0) := by
  rw [Bool.eq_iff_iff]
  simp only [beq_iff_eq, decide_eq_true_eq]
  rw [← UInt8.toNat_inj, chr_nat h]
  show 48 + d = 48 ↔ d = 0
  omega
/-- the text of a row, the lowest digit first -/
def txt (l : List Nat) : List UInt8 := l.reverse.map chr
theorem txt_len (l : List Nat) : (txt l).length = l.length := by simp [txt]
def strip : List Nat → List Nat
  | [] => []
  | d :: l => if strip l = [] then (if d = 0 then [] else [d]) else d :: strip l
theorem dec_ne (n : Nat) : Lib.decDigits n ≠ [] := by
  unfold Lib.decDigits
  split <;> simp
theorem dec_cons {d v : Nat} (hd : d < 10) (hv : v ≠ 0) : Lib.decDigits (d + 10 * v) = Lib.decDigits v ++ [chr d] := by
  conv => lhs; unfold Lib.decDigits
  rw [dif_neg (by omega), show (d + 10 * v) / 10 = v by omega, show (d + 10 * v) % 10 = d by omega]
  rfl
theorem strip_dec {l : List Nat} (h : Dig l) : txt (strip l) = if vL l = 0 then [] else Lib.decDigits (vL l) := by
  induction l with
  | nil => rfl
  | cons d l ih =>
    obtain ⟨hd, hl⟩ := dig_cons.1 h
    have ih := ih hl
    by_cases e : strip l = []
    · rw [e] at ih
      have hv : vL l = 0 := by
        by_cases hv : vL l = 0
        · exact hv
        · rw [if_neg hv] at ih
          exact absurd ih.symm (dec_ne _)
      simp only [strip, if_pos e, vL, hv, Nat.mul_zero, Nat.add_zero]
      by_cases h0 : d = 0
      · rw [if_pos h0, if_pos h0]; rfl
      · rw [if_neg h0, if_neg h0, Lib.decDigits_one hd]; rfl
    · have hv : vL l ≠ 0 := fun hv => by
        rw [if_pos hv] at ih
        exact e (by simpa [txt] using ih)
      rw [if_neg hv] at ih
      have hne : ¬ vL (d :: l) = 0 := by show ¬ d + 10 * vL l = 0; omega
      rw [if_neg hne, show strip (d :: l) = d :: strip l by simp only [strip, if_neg e], show vL (d :: l) = d + 10 * vL l from rfl, dec_cons hd hv, ← ih]
      simp [txt]
theorem trim_strip {l : List Nat} (h : Dig l) : (txt l).dropWhile (· == 48) = txt (strip l) := by
  induction l with
  | nil => rfl
  | cons d l ih =>
    obtain ⟨hd, hl⟩ := dig_cons.1 h
    have e : txt (d :: l) = txt l ++ [chr d] := by simp [txt]
    rw [e, List.dropWhile_append, ih hl]
    by_cases z : strip l = []
    · have : (txt (strip l)).isEmpty = true := by rw [z]; rfl
      rw [if_pos this]
      simp only [strip, if_pos z, List.dropWhile_cons, List.dropWhile_nil, chr_eq hd]
      by_cases h0 : d = 0
      · rw [if_pos h0, if_pos (by simpa using h0)]; rfl
      · rw [if_neg h0, if_neg (by simpa using h0)]; rfl
    · have : ¬ (txt (strip l)).isEmpty = true := by
        simpa [txt] using z
      rw [if_neg this]
      simp only [strip, if_neg z]
      simp [txt]
/-- what is left of a row's text without the noughts ahead -/
theorem trim_dec {l : List Nat} (h : Dig l) : (txt l).dropWhile (· == 48) = if vL l = 0 then [] else Lib.decDigits (vL l) := by
  rw [trim_strip h, strip_dec h]
/-! ### sums -/
def plusL : List Nat → List Nat → Nat → List Nat
  | a :: l, b :: m, c => (a + b + c) % 10 :: plusL l m ((a + b + c) / 10)
  | _, _, c => [c]
theorem plusL_val : ∀ (l m : List Nat) (c : Nat), l.length = m.length → vL (plusL l m c) = vL l + vL m + c
  | [], [], c, _ => by simp [plusL, vL]
  | a :: l, b :: m, c, h => by
    have := plusL_val l m ((a + b + c) / 10) (by simpa using h)
    simp only [plusL, vL, this]
    omega
  | [], _ :: _, _, h => by simp at h
  | _ :: _, [], _, h => by simp at h
theorem plusL_len : ∀ (l m : List Nat) (c : Nat), l.length = m.length → (plusL l m c).length = l.length + 1
  | [], [], c, _ => rfl
  | a :: l, b :: m, c, h => by
    have := plusL_len l m ((a + b + c) / 10) (by simpa using h)
    simp only [plusL, List.length_cons, this]
  | [], _ :: _, _, h => by simp at h
  | _ :: _, [], _, h => by simp at h
theorem plusL_dig : ∀ (l m : List Nat) (c : Nat), Dig l → Dig m → c ≤ 1 → Dig (plusL l m c)
  | a :: l, b :: m, c, h1, h2, h3 => by
    obtain ⟨ha, hl⟩ := dig_cons.1 h1
    obtain ⟨hb, hm⟩ := dig_cons.1 h2
    exact dig_cons.2 ⟨Nat.mod_lt _ (by decide), plusL_dig l m _ hl hm (by omega)⟩
  | [], [], c, _, _, h => dig_cons.2 ⟨by omega, dig_nil⟩
  | [], _ :: _, c, _, _, h => dig_cons.2 ⟨by omega, dig_nil⟩
  | _ :: _, [], c, _, _, h => dig_cons.2 ⟨by omega, dig_nil⟩
def carry : List Nat → List Nat → Nat → Nat → Nat
  | a :: l, b :: m, c, k + 1 => carry l m ((a + b + c) / 10) k
  | _, _, c, _ => c
theorem carry_zero (l m : List Nat) (c : Nat) : carry l m c 0 = c := by
  cases l <;> cases m <;> rfl
theorem carry_succ : ∀ (l m : List Nat) (c k : Nat) (h : k < l.length) (h' : k < m.length), carry l m c (k + 1) = (l[k] + m[k] + carry l m c k) / 10
  | a :: l, b :: m, c, 0, _, _ => by simp [carry, carry_zero]
  | a :: l, b :: m, c, k + 1, h, h' => by
    have := carry_succ l m ((a + b + c) / 10) k (by simpa using h) (by simpa using h')
    simp only [carry, List.getElem_cons_succ]
    exact this
theorem carry_le : ∀ (l m : List Nat) (c k : Nat), Dig l → Dig m → c ≤ 1 → carry l m c k ≤ 1
  | a :: l, b :: m, c, k + 1, h1, h2, h3 => by
    obtain ⟨ha, hl⟩ := dig_cons.1 h1
    obtain ⟨hb, hm⟩ := dig_cons.1 h2
    exact carry_le l m _ k hl hm (by omega)
  | [], _, c, k, _, _, h => by simp only [carry]; exact h
  | _ :: _, [], c, k, _, _, h => by simp only [carry]; exact h
  | a :: l, b :: m, c, 0, _, _, h => by simp only [carry]; exact h
theorem plusL_get : ∀ (l m : List Nat) (c k : Nat) (h : k < l.length) (h' : k < m.length), (plusL l m c)[k]? = some ((l[k] + m[k] + carry l m c k) % 10)
  | a :: l, b :: m, c, 0, _, _ => by simp [plusL, carry_zero]
  | a :: l, b :: m, c, k + 1, h, h' => by
    have := plusL_get l m ((a + b + c) / 10) k (by simpa using h) (by simpa using h')
    simp only [plusL, List.getElem?_cons_succ, carry, List.getElem_cons_succ]
    exact this
theorem plusL_last : ∀ (l m : List Nat) (c : Nat), l.length = m.length → (plusL l m c)[l.length]? = some (carry l m c l.length)
  | [], [], c, _ => by simp [plusL, carry]
  | a :: l, b :: m, c, h => by
    have := plusL_last l m ((a + b + c) / 10) (by simpa using h)
    simp only [plusL, List.length_cons, List.getElem?_cons_succ, carry]
    exact this
  | [], _ :: _, _, h => by simp at h
  | _ :: _, [], _, h => by simp at h
/-! ### the highest first -/
def vM (a : Nat) : List Nat → Nat
  | [] => a
  | d :: t => vM (10 * a + d) t
theorem vM_app : ∀ (s t : List Nat) (a : Nat), vM a (s ++ t) = vM (vM a s) t
  | [], _, _ => rfl
  | d :: s, t, a => by simp only [List.cons_append, vM]; exact vM_app s t _
theorem vM_rev (l : List Nat) : vM 0 l.reverse = vL l := by
  induction l with
  | nil => rfl
  | cons d l ih => simp only [List.reverse_cons, vM_app, ih, vM, vL]; omega
theorem vM_eq (l : List Nat) : vM 0 l = vL l.reverse := by rw [← vM_rev, List.reverse_reverse]
def halveM (r : Nat) : List Nat → List Nat
  | [] => []
  | d :: t => (10 * r + d) / 2 :: halveM ((10 * r + d) % 2) t
def restM (r : Nat) : List Nat → Nat
  | [] => r
  | d :: t => restM ((10 * r + d) % 2) t
theorem halve_val : ∀ (t : List Nat) (a r : Nat), 2 * vM a (halveM r t) + restM r t = vM (2 * a + r) t
  | [], a, r => rfl
  | d :: t, a, r => by
    have := halve_val t (10 * a + (10 * r + d) / 2) ((10 * r + d) % 2)
    simp only [halveM, vM, restM]
    rw [this]
    congr 1
    omega
theorem halve_len : ∀ (t : List Nat) (r : Nat), (halveM r t).length = t.length
  | [], _ => rfl
  | d :: t, r => by simp only [halveM, List.length_cons, halve_len t]
theorem halve_dig : ∀ (t : List Nat) (r : Nat), Dig t → r ≤ 1 → Dig (halveM r t)
  | [], _, _, _ => dig_nil
  | d :: t, r, h, hr => by
    obtain ⟨hd, ht⟩ := dig_cons.1 h
    exact dig_cons.2 ⟨by omega, halve_dig t _ ht (by omega)⟩
theorem rest_le : ∀ (t : List Nat) (r : Nat), r ≤ 1 → restM r t ≤ 1
  | [], _, h => h
  | d :: t, r, h => rest_le t _ (by omega)
theorem halve_app : ∀ (s t : List Nat) (r : Nat), halveM r (s ++ t) = halveM r s ++ halveM (restM r s) t
  | [], _, _ => rfl
  | d :: s, t, r => by simp only [List.cons_append, halveM, restM, halve_app s t]
theorem rest_app : ∀ (s t : List Nat) (r : Nat), restM r (s ++ t) = restM (restM r s) t
  | [], _, _ => rfl
  | d :: s, t, r => by simp only [List.cons_append, restM, rest_app s t]
/-- half of a row with a nought behind is five times the row -/
theorem halved_val (D : List Nat) : vM 0 (halveM 0 (D ++ [0])) = 5 * vM 0 D := by
  have h1 := halve_val (D ++ [0]) 0 0
  have h2 := rest_le (D ++ [0]) 0 (by decide)
  have h3 : vM (2 * 0 + 0) (D ++ [0]) = 10 * vM 0 D := by rw [vM_app]; rfl
  omega
/-! ### what is less -/
/-- of rows of one length, the highest first: which is less -/
def cmpM : List Nat → List Nat → Int
  | a :: l, b :: m => if a < b then -1 else if b < a then 1 else cmpM l m
  | _, _ => 0
theorem vM_split : ∀ (l : List Nat) (a : Nat), vM a l = a * 10 ^ l.length + vM 0 l
  | [], a => by simp [vM]
  | d :: l, a => by
    simp only [vM]
    rw [vM_split l (10 * a + d), vM_split l (10 * 0 + d)]
    simp only [List.length_cons, Nat.pow_succ]
    generalize 10 ^ l.length = p
    rw [Nat.add_mul, show 10 * 0 + d = d by omega, Nat.mul_assoc, Nat.mul_left_comm, Nat.mul_comm p 10, Nat.add_assoc]
theorem vM_lt {l : List Nat} (h : Dig l) : vM 0 l < 10 ^ l.length := by
  rw [vM_eq]
  have := vL_lt (dig_rev.2 h)
  simpa using this
theorem cmpM_val : ∀ (l m : List Nat), l.length = m.length → Dig l → Dig m → cmpM l m = if vM 0 l < vM 0 m then -1 else if vM 0 m < vM 0 l then 1 else 0
  | [], [], _, _, _ => by simp [cmpM]
  | a :: l, b :: m, h, h1, h2 => by
    obtain ⟨_, hl⟩ := dig_cons.1 h1
    obtain ⟨_, hm⟩ := dig_cons.1 h2
    have hlen : l.length = m.length := by simpa using h
    have ih := cmpM_val l m hlen hl hm
    have e1 := vM_split l a
    have e2 := vM_split m b
    have b1 := vM_lt hl
    have b2 := vM_lt hm
    simp only [cmpM, vM, show 10 * 0 + a = a by omega, show 10 * 0 + b = b by omega]
    rw [e1, e2, ← hlen]
    rw [← hlen] at b2
    generalize 10 ^ l.length = p at *
    rcases Nat.lt_trichotomy a b with h | h | h
    · rw [if_pos h, if_pos]
      have : (a + 1) * p ≤ b * p := Nat.mul_le_mul_right p h
      rw [Nat.add_mul] at this
      omega
    · subst h
      rw [if_neg (Nat.lt_irrefl _), if_neg (Nat.lt_irrefl _), ih]
      simp only [Nat.add_lt_add_iff_left]
    · have h3 : (b + 1) * p ≤ a * p := Nat.mul_le_mul_right p h
      rw [Nat.add_mul] at h3
      rw [if_neg (by omega), if_pos h, if_neg (by omega), if_pos (by omega)]
  | [], _ :: _, h, _, _ => by simp at h
  | _ :: _, [], h, _, _ => by simp at h
/-! ### what is rounded -/
/-- over ten to the power k, the nearer, of two the even one -/
def rnd (v k : Nat) : Nat := if 10 ^ k < 2 * (v % 10 ^ k) ∨ 2 * (v % 10 ^ k) = 10 ^ k ∧ v / 10 ^ k % 2 = 1 then v / 10 ^ k + 1 else v / 10 ^ k
theorem vM_cut (s t : List Nat) (ht : Dig t) : vM 0 (s ++ t) / 10 ^ t.length = vM 0 s ∧ vM 0 (s ++ t) % 10 ^ t.length = vM 0 t := by
  have hp : 0 < 10 ^ t.length := Nat.pow_pos (by decide)
  have := vM_lt ht
  rw [vM_app, vM_split t (vM 0 s)]
  rw [Nat.mul_comm, Nat.mul_add_div hp, Nat.mul_add_mod, Nat.mod_eq_of_lt this, Nat.div_eq_of_lt this]
  exact ⟨rfl, rfl⟩
theorem vM_rep : ∀ (n a : Nat), vM a (List.replicate n 0) = a * 10 ^ n
  | 0, a => by simp [vM]
  | n + 1, a => by
    simp only [List.replicate_succ, vM, Nat.add_zero]
    rw [vM_rep n, Nat.pow_succ, Nat.mul_comm 10 a, Nat.mul_assoc, Nat.mul_comm 10]
theorem half_val (k : Nat) : 2 * vM 0 (5 :: List.replicate k 0) = 10 ^ (k + 1) := by
  simp only [vM, Nat.mul_zero, Nat.zero_add]
  rw [vM_rep, Nat.pow_succ]
  omega
end Go.Fl
